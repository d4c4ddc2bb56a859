/-
  Texts joined: TapeCount HeadDefs Arena OpV TapeLaw Head Spots Map Arena2 Check.
-/
import Derived.WalkKit
import Derived.Test.YtbmkbnalembbjaaRows
import Derived.Maps.OwnSet
import Derived.Maps.OwnOps
import Derived.Test.YtbmkbnalembbjaaK0
namespace Go.Proofs.Ytbmkbnalembbjaa
open Go.RowKit
set_option maxRecDepth 100000 in
set_option maxHeartbeats 1000000 in
theorem count_any (g : Nat) (L : List Nat) (b : Bool) (w : World) (hR : RdAt w g L b) :
    Calls Try.prog 35 #[.pointer (some ⟨g, 0, none⟩)] w fun e w' => e = .returned (.int .i64 (cntR L b).1) ∧ RdAt w' g (cntR L b).2.1 (cntR L b).2.2 ∧ w.grownBy w' (some g) := by
  have HN := Lib.hid (fun w hR => num_any g L b w hR)
  have hlt := @numR_lt L b
  have HC : Hid (cntR L b = if (numR L b).2.2 = true ∨ (numR L b).2.1.length < (numR L b).1 then (0, (numR L b).2.1, true) else ((numR L b).1, (numR L b).2.1, false)) := rfl
  generalize cntR L b = q at *
  generalize numR L b = p at *
  obtain ⟨n, R, b'⟩ := p
  dsimp only at HN hlt HC
  go_enter Try.func35, Try.ntmps35
  go_wp2_with fail
  refine (HN.out _ hR).mono ?_
  rintro e w1 ⟨rfl, ⟨s, hB, rfl, hs⟩, hg⟩
  have k0 := hB.cell 0
  have k1 := hB.cell 1
  simp only [List.getElem?_toArray, List.getElem?_cons_zero, List.getElem?_cons_succ] at k0 k1
  have f1 := hB.frozen 1
  have k2 := fun x => (hB.set_ 1 (.bool x)).cell 1
  simp at k2
  have HB := Lib.hid hB
  have HG := Lib.hid hg
  have hw : IntKind.u64.wrap (s.size : Int) = (s.size : Int) := by rw [IntKind.wrap_u64]; omega
  clear hB hg
  cases b'
  · by_cases hn : s.size < n
    · have g1 : decide (s.size < n) = true := decide_eq_true hn
      have g2 : decide ((s.size : Int) < (n : Int)) = true := decide_eq_true (by omega)
      go_wp2
      go_ret
      rw [HC.out, if_pos (.inr (by rw [bytesN_length]; exact hn))]
      exact ⟨rfl, ⟨s, HB.out.set_ 1 (.bool true), rfl, hs⟩, HG.out.trans (grown_cell _ g 1 _)⟩
    · have g1 : decide (s.size < n) = false := decide_eq_false hn
      have g2 : decide ((s.size : Int) < (n : Int)) = false := decide_eq_false (by omega)
      have hw2 : IntKind.i64.wrap (n : Int) = (n : Int) := IntWalk.i64_in _ (by omega)
      have hw3 : wrap64 (n : Int) = (n : Int) := IntWalk.wrap64_in _ (by omega)
      go_wp2
      go_ret
      rw [HC.out, if_neg (by rw [bytesN_length]; simp; omega)]
      exact ⟨rfl, ⟨s, HB.out.set_ 1 (.bool false), rfl, hs⟩, HG.out.trans (grown_cell _ g 1 _)⟩
  · go_wp2
    go_ret
    rw [HC.out, if_pos (.inl (by first | rfl | trivial))]
    exact ⟨rfl, ⟨s, HB.out.set_ 1 (.bool true), rfl, hs⟩, HG.out.trans (grown_cell _ g 1 _)⟩
end Go.Proofs.Ytbmkbnalembbjaa

namespace Go.Proofs.Ytbmkbnalembbjaa
open Go.RowKit
def hv (r b t : Int) (f : Bool) : Value := .agg #[.int .i64 r, .int .i64 b, .int .i64 t, .bool f]
def headE (r b t : Int) (f : Bool) : Int :=
  if r < 0 ∨ b < 0 ∨ t < 0 ∨ 256 < r ∨ 256 < b ∨ 65535 < t then 4
  else if f = true ∧ (0 < r ∨ 0 < t) then 3
  else if 256 < 1 + r + b then 2 else 0
def wordOf (r b t : Int) (f : Bool) : Int := r + b * 65536 + t * 4294967296 + (if f then 281474976710656 else 0)
theorem headE_ok {r b t : Int} {f : Bool} : headE r b t f = 0 ↔ (0 ≤ r ∧ r ≤ 256 ∧ 0 ≤ b ∧ b ≤ 256 ∧ 0 ≤ t ∧ t ≤ 65535 ∧ 1 + r + b ≤ 256 ∧ (f = true → r = 0 ∧ t = 0)) := by
  unfold headE
  constructor
  · intro h
    split at h
    · cases h
    · split at h
      · cases h
      · split at h
        · cases h
        · rename_i a b' c
          exact ⟨by omega, by omega, by omega, by omega, by omega, by omega, by omega, fun hf => by
            subst hf
            simp at b'
            omega⟩
  · rintro ⟨h1, h2, h3, h4, h5, h6, h7, h8⟩
    rw [if_neg (by omega), if_neg (by rintro ⟨hf, h⟩; have := h8 hf; omega), if_neg (by omega)]
def rdR (v : Int) : Int := v % 65536
def rdB (v : Int) : Int := v / 65536 % 65536
def rdT (v : Int) : Int := v / 4294967296 % 65536
def rdF (v : Int) : Bool := decide (v / 281474976710656 % 2 = 1)
def readOk (v : Int) : Prop := v / 562949953421312 = 0 ∧ headE (rdR v) (rdB v) (rdT v) (rdF v) = 0
instance readOkDec (v : Int) : Decidable (readOk v) := by unfold readOk; infer_instance
end Go.Proofs.Ytbmkbnalembbjaa

namespace Go.Proofs.Ytbmkbnalembbjaa
open Go.RowKit
structure Spot where
  loc : Int
  r : Int
  b : Int
  t : Int
  f : Bool
deriving DecidableEq
def Spot.long (s : Spot) : Int := 1 + s.r + s.b
def spotC (s : Spot) : List Value := [.int .i64 s.loc, .int .i64 s.r, .int .i64 s.b, .int .i64 s.t, .bool s.f]
def spotsC (l : List Spot) : List Value := l.flatMap spotC
def spotOf (i : Nat) (v : Int) : Spot := ⟨i, rdR v, rdB v, rdT v, rdF v⟩
def hlen (v : Int) : Nat := (1 + rdR v + rdB v).toNat
def spotsGo (a : List Int) : Nat → Nat → Option (List Spot)
  | 0, _ => some []
  | n + 1, i => if a.length ≤ i then some [] else
    if readOk (a.getD i 0) ∧ i + hlen (a.getD i 0) ≤ a.length then (spotsGo a n (i + hlen (a.getD i 0))).map (spotOf i (a.getD i 0) :: ·) else none
def spotsAt (a : List Int) (i : Nat) : Option (List Spot) := spotsGo a (a.length - i) i
theorem hlen_pos {v : Int} (h : readOk v) : 1 ≤ hlen v := by
  have := headE_ok.1 h.2
  unfold hlen; omega
theorem spotsGo_fuel (a : List Int) : ∀ (n m i : Nat), a.length - i ≤ n → a.length - i ≤ m → spotsGo a n i = spotsGo a m i := by
  intro n
  induction n with
  | zero =>
    intro m i h1 h2
    cases m with
    | zero => rfl
    | succ m => simp only [spotsGo]; rw [if_pos (by omega)]
  | succ n ih =>
    intro m i h1 h2
    cases m with
    | zero => simp only [spotsGo]; rw [if_pos (by omega)]
    | succ m =>
      simp only [spotsGo]
      split
      · rfl
      · split
        · rename_i h
          have := hlen_pos h.1
          rw [ih m _ (by omega) (by omega)]
        · rfl
theorem spotsAt_end {a : List Int} {i : Nat} (h : a.length ≤ i) : spotsAt a i = some [] := by
  unfold spotsAt
  rw [show a.length - i = 0 by omega]
  rfl
theorem spotsAt_step {a : List Int} {i : Nat} (h : i < a.length) (h1 : readOk (a.getD i 0)) (h2 : i + hlen (a.getD i 0) ≤ a.length) :
    spotsAt a i = (spotsAt a (i + hlen (a.getD i 0))).map (spotOf i (a.getD i 0) :: ·) := by
  have := hlen_pos h1
  unfold spotsAt
  rw [show a.length - i = (a.length - i - 1) + 1 by omega]
  simp only [spotsGo]
  rw [if_neg (by omega), if_pos ⟨h1, h2⟩, spotsGo_fuel a _ (a.length - (i + hlen (a.getD i 0))) _ (by omega) (by omega)]
theorem spotsAt_bad {a : List Int} {i : Nat} (h : i < a.length) (h1 : ¬ (readOk (a.getD i 0) ∧ i + hlen (a.getD i 0) ≤ a.length)) : spotsAt a i = none := by
  unfold spotsAt
  rw [show a.length - i = (a.length - i - 1) + 1 by omega]
  simp only [spotsGo]
  rw [if_neg (by omega), if_neg h1]
def spotsE (a : List Int) : Int := if 256 < a.length then 2 else if spotsAt a 0 = none then 3 else 0
def spotsL (a : List Int) : List Spot := if 256 < a.length then [] else (spotsAt a 0).getD []
def Parse (a : List Int) : Nat → List Spot → Prop
  | i, [] => i = a.length
  | i, s :: l => i < a.length ∧ readOk (a.getD i 0) ∧ s = spotOf i (a.getD i 0) ∧ i + hlen (a.getD i 0) ≤ a.length ∧ Parse a (i + hlen (a.getD i 0)) l
theorem parse_of (a : List Int) : ∀ (n i : Nat) (l : List Spot), a.length - i ≤ n → i ≤ a.length → spotsAt a i = some l → Parse a i l := by
  intro n
  induction n with
  | zero =>
    intro i l h1 h2 h
    have hi : i = a.length := by omega
    subst hi
    rw [spotsAt_end (Nat.le_refl _)] at h
    obtain rfl := Option.some.inj h
    rfl
  | succ n ih =>
    intro i l h1 h2 h
    by_cases hi : i < a.length
    · by_cases hok : readOk (a.getD i 0) ∧ i + hlen (a.getD i 0) ≤ a.length
      · rw [spotsAt_step hi hok.1 hok.2] at h
        obtain ⟨l', h', rfl⟩ := Option.map_eq_some_iff.1 h
        have := hlen_pos hok.1
        exact ⟨hi, hok.1, rfl, hok.2, ih _ _ (by omega) hok.2 h'⟩
      · rw [spotsAt_bad hi hok] at h
        cases h
    · rw [spotsAt_end (by omega)] at h
      obtain rfl := Option.some.inj h
      show i = a.length
      omega
theorem parse_ok {a : List Int} (h : spotsE a = 0) : a.length ≤ 256 ∧ Parse a 0 (spotsL a) := by
  unfold spotsE at h
  split at h
  · cases h
  · rename_i hl
    split at h
    · cases h
    · rename_i hn
      refine ⟨by omega, ?_⟩
      unfold spotsL
      rw [if_neg hl]
      cases hs : spotsAt a 0 with
      | none => exact absurd hs hn
      | some l => exact parse_of a _ 0 l (Nat.le_refl _) (Nat.zero_le _) hs
theorem spotsAt_parse (a : List Int) : ∀ (l : List Spot) (i : Nat), Parse a i l → spotsAt a i = some l := by
  intro l
  induction l with
  | nil => intro i h; exact spotsAt_end (by have : i = a.length := h; omega)
  | cons s l ih =>
    rintro i ⟨h1, h2, rfl, h4, h5⟩
    rw [spotsAt_step h1 h2 h4, ih _ h5]
    rfl
theorem spotsL_bad {a : List Int} (h : spotsE a ≠ 0) : spotsL a = [] := by
  unfold spotsE at h
  unfold spotsL
  split
  · rfl
  · rename_i hl
    rw [if_neg hl] at h
    split at h
    · rename_i hn; rw [hn]; rfl
    · exact absurd rfl h
theorem spotsC_length (l : List Spot) : (spotsC l).length = l.length * 5 := flat_length spotC 5 (fun _ => rfl) l
theorem spotsC_snoc (l : List Spot) (s : Spot) : spotsC (l ++ [s]) = spotsC l ++ spotC s := by simp [spotsC]
theorem Reads.elem {α : Type} {f : α → List Value} {k : Nat} {w : World} {B : Nat} {A : Option Addr} {n j : Nat} {l : List α} (hf : ∀ a, (f a).length = k) (h : Reads w B k A n (l.flatMap f)) (hk0 : 0 < k) (hj : j < n) :
    ∃ ad s, A = some ad ∧ ad.block < B ∧ l[j]? = some s ∧ w.cell? (ad.add (j * k)) = (f s)[0]? ∧ ∀ i, 0 < i → i < k → w.cell? ⟨(ad.add (j * k)).block, (ad.add (j * k)).off + i, none⟩ = (f s)[i]? := by
  have hn : l.length = n := by
    have := h.1; rw [flat_length f k hf] at this
    exact Nat.eq_of_mul_eq_mul_right hk0 this
  obtain ⟨ad, e, hb, hc⟩ := h.2 (by omega)
  refine ⟨ad, l[j], e, hb, List.getElem?_eq_getElem (by omega), ?_, fun i h0 hi => ?_⟩
  · have h1 := flat_at f k hf l j 0 (by omega) hk0
    have hl : 0 < (f (l[j]'(by omega))).length := by rw [hf]; exact hk0
    rw [List.getElem?_eq_getElem hl] at h1 ⊢
    have := hc (j * k) _ h1
    exact this
  · have h1 := flat_at f k hf l j i (by omega) hi
    have hl : i < (f (l[j]'(by omega))).length := by rw [hf]; exact hi
    rw [List.getElem?_eq_getElem hl] at h1 ⊢
    have h2 := hc (j * k + i) _ h1
    rw [← add_of_add, addr_add_pos _ _ h0] at h2
    exact h2
theorem parse_length (a : List Int) : ∀ (l : List Spot) (i : Nat), Parse a i l → i + l.length ≤ a.length := by
  intro l
  induction l with
  | nil => intro i h; have : i = a.length := h; simp; omega
  | cons s l ih =>
    rintro i ⟨h1, h2, rfl, h4, h5⟩
    have := ih _ h5
    have := hlen_pos h2
    simp only [List.length_cons]
    omega
theorem spotsL_length (a : List Int) : (spotsL a).length ≤ 256 := by
  by_cases h : spotsE a = 0
  · have := parse_length a _ _ (parse_ok h).2
    have := (parse_ok h).1
    omega
  · rw [spotsL_bad h]; simp
theorem Reads.spot {w : World} {B : Nat} {A : Option Addr} {n j : Nat} {l : List Spot} (h : Reads w B 5 A n (spotsC l)) (hj : j < n) :
    ∃ ad s, A = some ad ∧ ad.block < B ∧ l[j]? = some s ∧ w.cell? (ad.add (j * 5)) = some (.int .i64 s.loc) ∧
      w.cell? ⟨(ad.add (j * 5)).block, (ad.add (j * 5)).off + 1, none⟩ = some (.int .i64 s.r) ∧ w.cell? ⟨(ad.add (j * 5)).block, (ad.add (j * 5)).off + 2, none⟩ = some (.int .i64 s.b) ∧
      w.cell? ⟨(ad.add (j * 5)).block, (ad.add (j * 5)).off + 3, none⟩ = some (.int .i64 s.t) ∧ w.cell? ⟨(ad.add (j * 5)).block, (ad.add (j * 5)).off + 4, none⟩ = some (.bool s.f) := by
  obtain ⟨ad, s, e, hb, hs, c0, cs⟩ := Reads.elem (f := spotC) (k := 5) (fun _ => rfl) h (by decide) hj
  exact ⟨ad, s, e, hb, hs, c0, cs 1 (by decide) (by decide), cs 2 (by decide) (by decide), cs 3 (by decide) (by decide), cs 4 (by decide) (by decide)⟩
end Go.Proofs.Ytbmkbnalembbjaa

namespace Go.Proofs.Ytbmkbnalembbjaa
open Go.RowKit
structure OpV where
  kind : Int
  a : Int
  b : Int
  c : Int
  v : Int
def opC (o : OpV) : List Value := [.int .i64 o.kind, .int .i64 o.a, .int .i64 o.b, .int .i64 o.c, .int .u64 o.v]
def opsC (l : List OpV) : List Value := l.flatMap opC
theorem opsC_length (l : List OpV) : (opsC l).length = l.length * 5 := flat_length opC 5 (fun _ => rfl) l
theorem Reads.op {w : World} {B : Nat} {A : Option Addr} {n j : Nat} {l : List OpV} (h : Reads w B 5 A n (opsC l)) (hj : j < n) :
    ∃ ad o, A = some ad ∧ ad.block < B ∧ l[j]? = some o ∧ w.cell? (ad.add (j * 5)) = some (.int .i64 o.kind) ∧
      w.cell? ⟨(ad.add (j * 5)).block, (ad.add (j * 5)).off + 1, none⟩ = some (.int .i64 o.a) ∧ w.cell? ⟨(ad.add (j * 5)).block, (ad.add (j * 5)).off + 2, none⟩ = some (.int .i64 o.b) ∧
      w.cell? ⟨(ad.add (j * 5)).block, (ad.add (j * 5)).off + 3, none⟩ = some (.int .i64 o.c) ∧ w.cell? ⟨(ad.add (j * 5)).block, (ad.add (j * 5)).off + 4, none⟩ = some (.int .u64 o.v) := by
  obtain ⟨ad, o, e, hb, ho, h0, hi⟩ := Reads.elem (f := opC) (k := 5) (fun _ => rfl) h (by decide) hj
  exact ⟨ad, o, e, hb, ho, h0, hi 1 (by decide) (by decide), hi 2 (by decide) (by decide), hi 3 (by decide) (by decide), hi 4 (by decide) (by decide)⟩
end Go.Proofs.Ytbmkbnalembbjaa

namespace Go.Proofs.Ytbmkbnalembbjaa
def i64R (x : Int) : Prop := -9223372036854775808 ≤ x ∧ x ≤ 9223372036854775807
structure OpW (o : OpV) : Prop where
  kind : i64R o.kind
  a : i64R o.a
  b : i64R o.b
  c : i64R o.c
  v : 0 ≤ o.v ∧ o.v < 18446744073709551616
def opN (o : OpV) : List Nat := [u64N o.kind, u64N o.a, u64N o.b, u64N o.c, u64N o.v]
def opsN (l : List OpV) : List Nat := l.flatMap opN
def opOf (l : List Nat) : OpV := ⟨i64N (l.getD 0 0), i64N (l.getD 1 0), i64N (l.getD 2 0), i64N (l.getD 3 0), (l.getD 4 0 : Nat)⟩
theorem opN_length (o : OpV) : (opN o).length = 5 := rfl
theorem opN_lt (o : OpV) : ∀ n ∈ opN o, n < 2 ^ 64 := by
  intro n hn
  simp only [opN, List.mem_cons, List.not_mem_nil, or_false] at hn
  rcases hn with rfl | rfl | rfl | rfl | rfl <;> exact u64N_lt _
theorem opOf_opN {o : OpV} (h : OpW o) : opOf (opN o) = o := by
  obtain ⟨k, a, b, c, v⟩ := o
  obtain ⟨h1, h2, h3, h4, h5⟩ := h
  simp only [opOf, opN, List.getD_cons_zero, List.getD_cons_succ]
  rw [i64N_u64N h1, i64N_u64N h2, i64N_u64N h3, i64N_u64N h4, u64N_id h5]
theorem i64N_range (n : Nat) (h : n < 2 ^ 64) : i64R (i64N n) := by
  unfold i64R i64N RowKit.wrap64
  omega
theorem list5n {l : List Nat} (h : l.length = 5) : ∃ a b c d e, l = [a, b, c, d, e] := by
  match l, h with
  | [a, b, c, d, e], _ => exact ⟨a, b, c, d, e, rfl⟩
theorem opN_opOf {l : List Nat} (h : l.length = 5) (hl : ∀ n ∈ l, n < 2 ^ 64) : opN (opOf l) = l ∧ OpW (opOf l) := by
  obtain ⟨a, b, c, d, e, rfl⟩ := list5n h
  simp only [List.mem_cons, List.not_mem_nil, or_false, forall_eq_or_imp, forall_eq] at hl
  obtain ⟨h1, h2, h3, h4, h5⟩ := hl
  refine ⟨?_, ⟨i64N_range a h1, i64N_range b h2, i64N_range c h3, i64N_range d h4, ?_⟩⟩
  · simp only [opOf, opN, List.getD_cons_zero, List.getD_cons_succ]
    rw [u64N_i64N h1, u64N_i64N h2, u64N_i64N h3, u64N_i64N h4, u64N_nat h5]
  · show 0 ≤ (e : Int) ∧ (e : Int) < 18446744073709551616
    omega
theorem opsN_length (l : List OpV) : (opsN l).length = l.length * 5 := by
  induction l with
  | nil => rfl
  | cons o l ih => simp only [opsN, List.flatMap_cons, List.length_append, List.length_cons] at ih ⊢; rw [ih, opN_length]; omega
theorem opsN_snoc (l : List OpV) (o : OpV) : opsN (l ++ [o]) = opsN l ++ opN o := by simp [opsN]
structure ReadAt (T : List Nat) (os : List OpV) (L : List Nat) (b : Bool) : Prop where
  bytes : ∀ c ∈ T, c < 256
  tail : ∃ P, T = P ++ L
  sound : b = false → T = encN (opsN os) ++ L
  full : ∀ l : List OpV, (∀ o ∈ l, OpW o) → T = encN (opsN l) → b = false ∧ os <+: l
  ok : ∀ o ∈ os, OpW o
theorem ReadAt.start {T : List Nat} (h : ∀ c ∈ T, c < 256) : ReadAt T [] T false :=
  ⟨h, ⟨[], rfl⟩, fun _ => rfl, fun l _ _ => ⟨rfl, List.nil_prefix⟩, fun o h => by cases h⟩
theorem ReadAt.next {T : List Nat} {os : List OpV} {L : List Nat} (h : ReadAt T os L false) (hL : L ≠ []) :
    ReadAt T (os ++ [opOf (numsR 5 L false).1]) (numsR 5 L false).2.1 (numsR 5 L false).2.2 := by
  obtain ⟨P, hP⟩ := h.tail
  obtain ⟨Q, hQ⟩ := numsR_suffix 5 L false
  obtain ⟨w1, w2⟩ := opN_opOf (numsR_length 5 L false) (numsR_lt 5 L false)
  refine ⟨h.bytes, ⟨P ++ Q, by rw [List.append_assoc, ← hQ]; exact hP⟩, fun hb => ?_, fun l hl hT => ?_, fun o ho => ?_⟩
  · obtain ⟨r1, -⟩ := numsR_read 5 L false (numsR 5 L false).1 (numsR 5 L false).2.1 (bytes_suffix hP h.bytes) (Prod.ext rfl (Prod.ext rfl hb))
    rw [opsN_snoc, encN_append, w1, List.append_assoc, ← r1]
    exact h.sound rfl
  · obtain ⟨-, t, rfl⟩ := h.full l hl hT
    have hs := h.sound rfl
    rw [hT, opsN, List.flatMap_append, encN_append] at hs
    have hs := List.append_cancel_left hs
    cases t with
    | nil => exact absurd hs.symm hL
    | cons o t =>
      rw [List.flatMap_cons, encN_append] at hs
      have ho : OpW o := hl o (by simp)
      have hr := numsR_put 5 (opN o) (encN (t.flatMap opN)) false rfl (opN_lt o)
      rw [hs] at hr
      rw [hr]
      refine ⟨rfl, ?_⟩
      rw [opOf_opN ho]
      exact ⟨t, by simp⟩
  · rcases List.mem_append.1 ho with ho | ho
    · exact h.ok o ho
    · rw [List.mem_singleton.1 ho]; exact w2
structure OpsRead (T : List Nat) (os : List OpV) : Prop where
  is : T = encN (opsN os)
  ok : ∀ o ∈ os, OpW o
theorem ReadAt.done {T : List Nat} {os : List OpV} (h : ReadAt T os [] false) : OpsRead T os := ⟨by simpa using h.sound rfl, h.ok⟩
theorem ReadAt.only {T : List Nat} {os l : List OpV} (h : ReadAt T os [] false) (hl : ∀ o ∈ l, OpW o) (hT : T = encN (opsN l)) : l = os := by
  obtain ⟨-, t, rfl⟩ := h.full l hl hT
  have hs := h.sound rfl
  rw [hT, opsN, List.flatMap_append, encN_append] at hs
  have hs := List.append_cancel_left hs
  cases t with
  | nil => simp
  | cons o t =>
    have h2 := encN_len ((o :: t).flatMap opN)
    rw [hs] at h2
    simp [opN] at h2
theorem ReadAt.none {T : List Nat} {os l : List OpV} {L : List Nat} (h : ReadAt T os L true) (hl : ∀ o ∈ l, OpW o) : T ≠ encN (opsN l) := fun hT => by cases (h.full l hl hT).1
theorem ReadAt.few {T : List Nat} {os : List OpV} {L : List Nat} (h : ReadAt T os L false) : os.length * 5 ≤ T.length := by
  rw [h.sound rfl, List.length_append]
  have := encN_len (opsN os)
  have h2 := opsN_length os
  omega
end Go.Proofs.Ytbmkbnalembbjaa

namespace Go.Proofs.Ytbmkbnalembbjaa
open Go.RowKit
set_option maxHeartbeats 400000 in
theorem hlong_any (r b t : Int) (f : Bool) (w : World) (h : 0 ≤ r ∧ r ≤ 100000 ∧ 0 ≤ b ∧ b ≤ 100000) :
    Calls Try.prog 96 #[.agg #[.int .i64 r, .int .i64 b, .int .i64 t, .bool f]] w fun e w' => e = .returned (.int .i64 (1 + r + b)) ∧ Below w.heap.size w w' := by
  obtain ⟨h1, h2, h3, h4⟩ := h
  go_enter Try.func96, Try.ntmps96
  go_wp2
  go_ret
  exact ⟨rfl, below_new _ _⟩
set_option maxHeartbeats 1000000 in
theorem hcheck_any (r b t : Int) (f : Bool) (w : World) :
    Calls Try.prog 78 #[.agg #[.int .i64 r, .int .i64 b, .int .i64 t, .bool f]] w fun e w' => e = .returned (.int .i64 (headE r b t f)) ∧ Below w.heap.size w w' := by
  by_cases hr : r < 0 ∨ b < 0 ∨ t < 0 ∨ 256 < r ∨ 256 < b ∨ 65535 < t
  · have HE : Hid (headE r b t f = 4) := by show _ = _; unfold headE; rw [if_pos hr]
    go_enter Try.func78, Try.ntmps78
    go_wp2_with fail
    all_goals
      go_ret
      exact ⟨ret_int HE.out.symm, below_new _ _⟩
  · have g1 : 0 ≤ r := by omega
    have g2 : 0 ≤ b := by omega
    have g3 : 0 ≤ t := by omega
    have g4 : r ≤ 256 := by omega
    have g5 : b ≤ 256 := by omega
    have g6 : t ≤ 65535 := by omega
    by_cases hf : f = true ∧ (0 < r ∨ 0 < t)
    · have HE : Hid (headE r b t f = 3) := by show _ = _; unfold headE; rw [if_neg hr, if_pos hf]
      obtain ⟨rfl, hf⟩ := hf
      clear hr
      rcases hf with hf | hf
      all_goals
        go_enter Try.func78, Try.ntmps78
        go_wp2_with fail
        all_goals
          go_ret
          exact ⟨ret_int HE.out.symm, below_new _ _⟩
    · have hf2 : f = false ∨ (f = true ∧ r = 0 ∧ t = 0) := by
        cases f
        · exact .inl rfl
        · exact .inr ⟨rfl, by simp at hf; omega⟩
      by_cases hl : 256 < 1 + r + b
      · have HE : Hid (headE r b t f = 2) := by show _ = _; unfold headE; rw [if_neg hr, if_neg hf, if_pos hl]
        clear hr hf
        rcases hf2 with rfl | ⟨rfl, rfl, rfl⟩
        all_goals
          go_enter Try.func78, Try.ntmps78
          go_wp2_with (go_at_call 96; refine (hlong_any _ _ _ _ _ (by omega)).mono ?_; rintro e w1 ⟨rfl, hb1⟩)
          all_goals
            go_ret
            exact ⟨ret_int HE.out.symm, below_step (below_new _ _) hb1⟩
      · have HE : Hid (headE r b t f = 0) := by show _ = _; unfold headE; rw [if_neg hr, if_neg hf, if_neg hl]
        clear hr hf
        rcases hf2 with rfl | ⟨rfl, rfl, rfl⟩
        all_goals
          go_enter Try.func78, Try.ntmps78
          go_wp2_with (go_at_call 96; refine (hlong_any _ _ _ _ _ (by omega)).mono ?_; rintro e w1 ⟨rfl, hb1⟩)
          all_goals
            go_ret
            exact ⟨ret_int HE.out.symm, below_step (below_new _ _) hb1⟩
set_option maxHeartbeats 400000 in
theorem hlongc_ok (r b t : Int) (f : Bool) (w : World) (hE : headE r b t f = 0) :
    Calls Try.prog 93 #[.agg #[.int .i64 r, .int .i64 b, .int .i64 t, .bool f]] w fun e w' => e = .returned (.tuple #[.int .i64 (1 + r + b), .int .i64 0]) ∧ Below w.heap.size w w' := by
  obtain ⟨h1, h2, h3, h4, h5, h6, h7, h8⟩ := headE_ok.1 hE
  have HE := Lib.hid hE
  clear hE h8
  go_enter Try.func93, Try.ntmps93
  go_wp2_with (first
    | (go_at_call 78; refine (hcheck_any _ _ _ _ _).mono ?_; rw [HE.out]; rintro e w1 ⟨rfl, hb1⟩; obtain ⟨hc1, hf1⟩ := bcell hb1)
    | (go_at_call 96; refine (hlong_any _ _ _ _ _ (by omega)).mono ?_; rintro e w2 ⟨rfl, hb2⟩))
  go_ret2
  exact ⟨rfl, below_step (below_step (below_new _ _) hb1) hb2⟩
theorem hread_ok (v : Int) (w : World) (v0 : 0 ≤ v) (v1 : v < 18446744073709551616) (hok : readOk v) :
    Calls Try.prog 97 #[.int .u64 v] w fun e w' => e = .returned (.tuple #[.agg #[.int .i64 (rdR v), .int .i64 (rdB v), .int .i64 (rdT v), .bool (rdF v)], .int .i64 0]) ∧ Below w.heap.size w w' := by
  obtain ⟨hz, hE⟩ := hok
  have H := fun w => hcheck_any (rdR v) (rdB v) (rdT v) (rdF v) w
  rw [hE] at H
  have HH := Lib.hid H
  clear H hE
  have e1 : bits .and .u64 v 65535 = rdR v := band16 v v0 v1
  have e2 : bits .and .u64 (v / 65536) 65535 = rdB v := band16 (v / 65536) (by omega) (by omega)
  have e3 : bits .and .u64 (v / 4294967296) 65535 = rdT v := band16 (v / 4294967296) (by omega) (by omega)
  have e4 : (bits .and .u64 v 281474976710656 != 0) = rdF v := by
    rw [band48 v v0 v1]
    unfold rdF
    rw [Bool.eq_iff_iff]
    simp
    omega
  have b1 : 0 ≤ rdR v := by unfold rdR; omega
  have b2 : rdR v < 65536 := by unfold rdR; omega
  have b3 : 0 ≤ rdB v := by unfold rdB; omega
  have b4 : rdB v < 65536 := by unfold rdB; omega
  have b5 : 0 ≤ rdT v := by unfold rdT; omega
  have b6 : rdT v < 65536 := by unfold rdT; omega
  generalize rdR v = r at *
  generalize rdB v = b at *
  generalize rdT v = t at *
  generalize rdF v = f at *
  go_enter Try.func97, Try.ntmps97
  go_wp2_with (go_at_call 78; refine (HH.out _).mono ?_; rintro e w1 ⟨rfl, hb1⟩; obtain ⟨hc1, hf1⟩ := bcell hb1)
  have HB : Blk w1 w.heap.size 110 #[.int .i64 0, .int .i64 0, .int .i64 0, .bool false] := ((Blk.new _ _ _).alloc _).below hb1 (by simp only [World.size_alloc]; omega)
  have k0 := HB.cell 0
  have k1 := HB.cell 1
  have k2 := HB.cell 2
  have k3 := HB.cell 3
  simp at k0 k1 k2 k3
  have hb3 := below_step (below_step (below_new _ _) (below_new _ _)) hb1
  refine bodyPost_ret (v := .tuple #[.agg #[.int .i64 r, .int .i64 b, .int .i64 t, .bool f], .int .i64 0]) ?_ rfl ⟨rfl, ?_⟩
  · (simp only [results, Try.results97]; go_simp)
  · repeat (first | exact hb3 | refine Below.setCell ?_ (by simp) _)
theorem hread_bad (v : Int) (w : World) (v0 : 0 ≤ v) (v1 : v < 18446744073709551616) (hbad : ¬ readOk v) :
    Calls Try.prog 97 #[.int .u64 v] w fun e w' => e = .returned (.tuple #[.agg #[.int .i64 0, .int .i64 0, .int .i64 0, .bool false], .int .i64 3]) ∧ Below w.heap.size w w' := by
  have H := fun w => hcheck_any (rdR v) (rdB v) (rdT v) (rdF v) w
  have HH := Lib.hid H
  clear H
  have hb : ¬ v / 562949953421312 = 0 ∨ (v / 562949953421312 = 0 ∧ headE (rdR v) (rdB v) (rdT v) (rdF v) ≠ 0) := by
    unfold readOk at hbad
    by_cases h : v / 562949953421312 = 0
    · exact .inr ⟨h, fun h2 => hbad ⟨h, h2⟩⟩
    · exact .inl h
  clear hbad
  have e1 : bits .and .u64 v 65535 = rdR v := band16 v v0 v1
  have e2 : bits .and .u64 (v / 65536) 65535 = rdB v := band16 (v / 65536) (by omega) (by omega)
  have e3 : bits .and .u64 (v / 4294967296) 65535 = rdT v := band16 (v / 4294967296) (by omega) (by omega)
  have e4 : (bits .and .u64 v 281474976710656 != 0) = rdF v := by
    rw [band48 v v0 v1]
    unfold rdF
    rw [Bool.eq_iff_iff]
    simp
    omega
  have b1 : 0 ≤ rdR v := by unfold rdR; omega
  have b2 : rdR v < 65536 := by unfold rdR; omega
  have b3 : 0 ≤ rdB v := by unfold rdB; omega
  have b4 : rdB v < 65536 := by unfold rdB; omega
  have b5 : 0 ≤ rdT v := by unfold rdT; omega
  have b6 : rdT v < 65536 := by unfold rdT; omega
  generalize headE (rdR v) (rdB v) (rdT v) (rdF v) = E at *
  generalize rdR v = r at *
  generalize rdB v = b at *
  generalize rdT v = t at *
  generalize rdF v = f at *
  rcases hb with hz | ⟨hz, hE⟩
  · go_enter Try.func97, Try.ntmps97
    go_wp2_with fail
    refine bodyPost_ret (v := .tuple #[.agg #[.int .i64 0, .int .i64 0, .int .i64 0, .bool false], .int .i64 3]) ?_ rfl ⟨rfl, ?_⟩
    · simp [results, Try.results97, go_sem]
    · repeat (first | exact below_step (below_new _ _) (below_new _ _) | refine Below.setCell ?_ (by simp) _)
  · have hE1 : (E != 0) = true := by simpa using hE
    have hE2 : (E == 0) = false := by simpa using hE
    go_enter Try.func97, Try.ntmps97
    go_wp2_with (go_at_call 78; refine (HH.out _).mono ?_; rintro e w1 ⟨rfl, hb1⟩; obtain ⟨hc1, hf1⟩ := bcell hb1)
    have HB : Blk w1 w.heap.size 110 #[.int .i64 0, .int .i64 0, .int .i64 0, .bool false] := ((Blk.new _ _ _).alloc _).below hb1 (by simp only [World.size_alloc]; omega)
    have k0 := HB.cell 0
    have k1 := HB.cell 1
    have k2 := HB.cell 2
    have k3 := HB.cell 3
    simp at k0 k1 k2 k3
    have hb3 := below_step (below_step (below_new _ _) (below_new _ _)) hb1
    refine bodyPost_ret (v := .tuple #[.agg #[.int .i64 0, .int .i64 0, .int .i64 0, .bool false], .int .i64 3]) ?_ rfl ⟨rfl, ?_⟩
    · (simp only [results, Try.results97]; go_simp)
    · repeat (first | exact hb3 | refine Below.setCell ?_ (by simp) _)
end Go.Proofs.Ytbmkbnalembbjaa

namespace Go.Proofs.Ytbmkbnalembbjaa
open Go.RowKit
theorem info_spot : (Try.prog.info? 146).map (fun i => (i.zero, i.size, i.bytes)) = some (some (.agg #[.int .i64 0, .int .i64 0, .int .i64 0, .int .i64 0, .bool false]), 5, 40) := by kernel_rfl
set_option maxHeartbeats 400000 in
theorem spots_big (A : Option Addr) (n c : Nat) (w : World) (hn : 256 < n) :
    Calls Try.prog 79 #[.slice A n c] w fun e w' => e = .returned (.tuple #[.slice none 0 0, .int .i64 2]) ∧ w = w' := by
  go_enter Try.func79, Try.ntmps79
  go_wp2
  go_ret2
  exact ⟨rfl, rfl⟩
set_option maxRecDepth 100000 in
set_option maxHeartbeats 1000000 in
theorem spots_small (A : Option Addr) (n c : Nat) (a : List Int) (w : World) (hr : Reads w w.heap.size 1 A n (a.map (.int .u64))) (hn : n ≤ 256) (ha : ∀ x ∈ a, (Lit.int .u64 x).wf = true) :
    Calls Try.prog 79 #[.slice A n c] w fun e w' => Below w.heap.size w w' ∧ ∃ A' c', e = .returned (.tuple #[.slice A' (spotsL a).length c', .int .i64 (spotsE a)]) ∧ w'.ownsRow w.heap.size 146 5 (.slice A' (spotsL a).length c') (spotsL a).length (spotsC (spotsL a)) := by
  have hal : a.length = n := by have := hr.1; simpa using this
  have HL := Lib.hid hal
  obtain ⟨i0, hi, hz0, hz1, hz2⟩ := info_parts info_spot
  clear hal
  go_enter Try.func79, Try.ntmps79
  go_wp2
  go_loopw [4, 5] (fun o i wr => ∃ (j : Nat) (A' : Option Addr) (k c' : Nat) (acc : List Spot), j ≤ n ∧ i = .int .i64 j ∧ o = .slice A' k c' ∧ k ≤ j ∧ Hid (k = acc.length) ∧ Hid (spotsAt a 0 = (spotsAt a j).map (acc ++ ·)) ∧ wr.ownsRow w.heap.size 146 5 (.slice A' k c') k (spotsC acc) ∧ Below w.heap.size w wr) (fun _ i _ => n - (intOf i).toNat)
  case atStart => exact ⟨0, none, 0, 0, [], Nat.zero_le _, rfl, rfl, Nat.le_refl _, rfl, by show _ = _; simp, World.ownsRow_nil _ _ _ _, Below.refl _ _⟩
  case round =>
    obtain ⟨j, A', k, c', acc, hj, rfl, rfl, hkj, hk, hS, hown, hb⟩ := hrel
    by_cases hlt : j < n
    · obtain ⟨ad, v, rfl, had, hv, hc⟩ := (hr.below hb).num hlt
      have HV : Hid (a.getD j 0 = v) := by show _ = _; rw [List.getD_eq_getElem?_getD, hv]; rfl
      obtain ⟨v0, v1⟩ : 0 ≤ v ∧ v < 18446744073709551616 := by have := ha v (List.mem_of_getElem? hv); simp [Lit.wf, IntKind.min, IntKind.max, IntKind.signed, IntKind.bits] at this; omega
      clear hv
      by_cases hok : readOk v
      · have hE := headE_ok.1 hok.2
        have HR := Lib.hid (fun w => hread_ok v w v0 v1 hok)
        have HG := Lib.hid (fun w => hlongc_ok (rdR v) (rdB v) (rdT v) (rdF v) w hok.2)
        have HO := Lib.hid hok
        have HH : Hid (((hlen v : Nat) : Int) = 1 + rdR v + rdB v) := by show _ = _; unfold hlen; omega
        have HP : Hid (spotOf j v = ⟨j, rdR v, rdB v, rdT v, rdF v⟩) := rfl
        obtain ⟨r0, r1, b0, b1, t0, t1, l1, _⟩ := hE
        generalize rdR v = r at *
        generalize rdB v = b at *
        generalize rdT v = t at *
        generalize rdF v = f at *
        clear hok
        by_cases hfit : 1 + r + b ≤ (n : Int) - j
        · go_wp2_with fail
          refine (HR.out _).mono ?_
          rintro e w1 ⟨rfl, hb1⟩
          have hown1 := (own_below hown hb1).alloc (.cells #[.int .i64 r, .int .i64 b, .int .i64 t, .bool f] 110)
          have hb01 := hb.trans (hb1.mono hb.size)
          have hb02 := hb01.alloc hb01.size (.cells #[.int .i64 r, .int .i64 b, .int .i64 t, .bool f] 110)
          have hbl := Blk.new w1 110 #[.int .i64 r, .int .i64 b, .int .i64 t, .bool f]
          clear hown hb hb1
          go_wp2_with fail
          refine (HG.out _).mono ?_
          rintro e w2 ⟨rfl, hb2⟩
          have hbl2 := hbl.below hb2 (by simp)
          have k0 := hbl2.cell 0
          have k1 := hbl2.cell 1
          have k2 := hbl2.cell 2
          have k3 := hbl2.cell 3
          simp only [List.getElem?_toArray, List.getElem?_cons_zero, List.getElem?_cons_succ] at k0 k1 k2 k3
          have hown2 := (own_below hown1 hb2).alloc (.cells (spotC ⟨j, r, b, t, f⟩).toArray 146)
          have hb03 := hb02.trans (hb2.mono hb02.size)
          have hb04 := hb03.alloc hb03.size (.cells (spotC ⟨j, r, b, t, f⟩).toArray 146)
          have hnew := reads_new w2 (spotC ⟨j, r, b, t, f⟩) 146 1 5 rfl
          clear hown1 hb01 hb02 hb2 hbl hbl2
          go_wp2_with (at_builtin; refine wpList_append_any _ rfl (.tmp 40) (.tmp 44) 140 rfl w.heap.size 146 i0 _ 5 40 Try.underlying140 hi hz0 hz1 hz2 rfl (by decide) (.slice A' k c') k _ rfl hown2 (w2.heap.size + 1) (some ⟨w2.heap.size, 0, none⟩) 1 1 (spotC ⟨j, r, b, t, f⟩) rfl hnew (by simp [spotC, Value.oneCell']) (by simp [maxLen]; omega) (by omega) (by have := hb04.size; exact this) ?_; rintro v' w3 hown3 hgr hbl -; obtain ⟨A'', c'', rfl⟩ := own_slice hown3)
          have hb3 : Below w.heap.size w w3 := hb04.grown hgr hb04.size (fun g hg => (hown2.lt g hg).1)
          have hjl : j + hlen v ≤ n := by have := HH.out; omega
          go_roundw
          case rel => exact ⟨j + hlen v, A'', k + 1, c'', acc ++ [spotOf j v], hjl, by rw [Int.natCast_add, HH.out], rfl, by have := HH.out; omega, by show _ = _; rw [List.length_append, ← hk.out]; rfl, by
            show _ = _
            rw [hS.out, spotsAt_step (by rw [HL.out]; exact hlt) (by rw [HV.out]; exact HO.out) (by rw [HV.out, HL.out]; exact hjl), HV.out, Option.map_map]
            congr 1
            funext x
            simp, by rw [spotsC_snoc, HP.out]; exact hown3, hb3⟩
          case measure => have := HH.out; simp [intOf]; omega
        · have HZ : Hid (spotsAt a 0 = none) := by
            show _ = _
            rw [hS.out, spotsAt_bad (by rw [HL.out]; exact hlt) (by rw [HV.out, HL.out]; rintro ⟨_, h⟩; have := HH.out; omega)]
            rfl
          clear hown hS
          go_wp2_with fail
          refine (HR.out _).mono ?_
          rintro e w1 ⟨rfl, hb1⟩
          have hb01 := hb.trans (hb1.mono hb.size)
          go_wp2_with fail
          refine (HG.out _).mono ?_
          rintro e w2 ⟨rfl, hb2⟩
          go_wp2
          go_ret2
          have he : spotsE a = 3 := by unfold spotsE; rw [if_neg (by rw [HL.out]; omega), if_pos HZ.out]
          have hl : spotsL a = [] := spotsL_bad (by rw [he]; decide)
          rw [he, hl]
          exact ⟨(hb01.alloc hb01.size _).trans (hb2.mono (by have := hb01.size; simp; omega)), none, 0, rfl, World.ownsRow_nil _ _ _ _⟩
      · have HR := Lib.hid (fun w => hread_bad v w v0 v1 hok)
        have HG := Lib.hid (fun w => hlongc_ok 0 0 0 false w (by decide))
        have HZ : Hid (spotsAt a 0 = none) := by
          show _ = _
          rw [hS.out, spotsAt_bad (by rw [HL.out]; exact hlt) (by rw [HV.out]; rintro ⟨h, _⟩; exact hok h)]
          rfl
        clear hown hS hok
        go_wp2_with fail
        refine (HR.out _).mono ?_
        rintro e w1 ⟨rfl, hb1⟩
        have hb01 := hb.trans (hb1.mono hb.size)
        go_wp2_with fail
        refine (HG.out _).mono ?_
        rintro e w2 ⟨rfl, hb2⟩
        go_wp2
        go_ret2
        have he : spotsE a = 3 := by unfold spotsE; rw [if_neg (by rw [HL.out]; omega), if_pos HZ.out]
        have hl : spotsL a = [] := spotsL_bad (by rw [he]; decide)
        rw [he, hl]
        exact ⟨(hb01.alloc hb01.size _).trans (hb2.mono (by have := hb01.size; simp; omega)), none, 0, rfl, World.ownsRow_nil _ _ _ _⟩
    · have hjn : j = n := by omega
      subst hjn
      have HZ : Hid (spotsAt a 0 = some acc) := by
        show _ = _
        rw [hS.out, spotsAt_end (by rw [HL.out]; exact Nat.le_refl _)]
        simp
      clear hS
      go_wp2
      go_ret2
      have he : spotsE a = 0 := by unfold spotsE; rw [if_neg (by rw [HL.out]; omega), if_neg (by rw [HZ.out]; exact fun h => by cases h)]
      have hl : spotsL a = acc := by unfold spotsL; rw [if_neg (by rw [HL.out]; omega), HZ.out]; rfl
      rw [he, hl, ← hk.out]
      exact ⟨hb, A', c', rfl, hown⟩
theorem spots_any (A : Option Addr) (n c : Nat) (a : List Int) (w : World) (hr : Reads w w.heap.size 1 A n (a.map (.int .u64))) (ha : ∀ x ∈ a, (Lit.int .u64 x).wf = true) :
    Calls Try.prog 79 #[.slice A n c] w fun e w' => Below w.heap.size w w' ∧ ∃ A' c', e = .returned (.tuple #[.slice A' (spotsL a).length c', .int .i64 (spotsE a)]) ∧ w'.ownsRow w.heap.size 146 5 (.slice A' (spotsL a).length c') (spotsL a).length (spotsC (spotsL a)) := by
  by_cases hn : n ≤ 256
  · exact spots_small A n c a w hr hn ha
  · have hal : a.length = n := by have := hr.1; simpa using this
    refine (spots_big A n c w (by omega)).mono ?_
    rintro e w' ⟨rfl, rfl⟩
    have he : spotsE a = 2 := by unfold spotsE; rw [if_pos (by omega)]
    have hl : spotsL a = [] := spotsL_bad (by rw [he]; decide)
    rw [he, hl]
    exact ⟨Below.refl _ _, none, 0, rfl, World.ownsRow_nil _ _ _ _⟩
end Go.Proofs.Ytbmkbnalembbjaa

namespace Go.Proofs.Ytbmkbnalembbjaa
open Go.RowKit Go.Maps
def upd (f : Int → Option Value) (x : Int) (v : Value) : Int → Option Value := fun y => if y = x then some v else f y
def MapIs (w : World) (P : Program) (k : TypeId) (q : IntKind) (b n : Nat) (f : Int → Option Value) : Prop :=
  ∃ D : DataW Value, w.ownsMap P k (fun v => some (.held v, [])) b n D ∧ ∀ x, (Lit.int q x).wf = true → Maps.has D (.int q x) = (f x).isSome ∧ ∀ z, D.atKey (.int q x) (.held z) = .held ((f x).getD z)
section
variable {w : World} {P : Program} {k t e : TypeId} {q : IntKind} {b n : Nat} {f : Int → Option Value}
theorem MapIs.made (w : World) (P : Program) (k : TypeId) (q : IntKind) : MapIs (w.alloc (.map #[] 0)) P k q w.heap.size 0 (fun _ => none) :=
  ⟨.map [], World.ownsMap_made w P k _, fun _ _ => ⟨rfl, fun _ => rfl⟩⟩
theorem MapIs.lt (h : MapIs w P k q b n f) : b < w.heap.size := by obtain ⟨D, h, _⟩ := h; exact h.lt
theorem MapIs.mono (h : MapIs w P k q b n f) {n' : Nat} (hn : n ≤ n') : MapIs w P k q b n' f := by obtain ⟨D, h, h2⟩ := h; exact ⟨D, h.mono hn, h2⟩
theorem MapIs.alloc (h : MapIs w P k q b n f) (o : Obj) : MapIs (w.alloc o) P k q b n f := by obtain ⟨D, h, h2⟩ := h; exact ⟨D, h.alloc o, h2⟩
theorem MapIs.drew (h : MapIs w P k q b n f) : MapIs w.drew P k q b n f := h
theorem MapIs.drewN (h : MapIs w P k q b n f) (j : Nat) : MapIs (w.drewN j) P k q b n f := h
theorem MapIs.setCell (h : MapIs w P k q b n f) {a : Addr} (ha : b ≠ a.block) (u : Value) : MapIs (w.setCell a u) P k q b n f := by obtain ⟨D, h, h2⟩ := h; exact ⟨D, h.setCell ha u, h2⟩
theorem MapIs.below {B : Nat} {w' : World} (h : MapIs w P k q b n f) (hb : Below B w w') (hB : b < B) : MapIs w' P k q b n f := by
  obtain ⟨D, ⟨es, clock, h1, h2⟩, h3⟩ := h
  exact ⟨D, ⟨es, clock, (hb.block b hB).trans h1, h2⟩, h3⟩
theorem MapIs.congr (h : MapIs w P k q b n f) {g : Int → Option Value} (hg : ∀ x, (Lit.int q x).wf = true → f x = g x) : MapIs w P k q b n g := by
  obtain ⟨D, h1, h2⟩ := h
  exact ⟨D, h1, fun x hx => by rw [← hg x hx]; exact h2 x hx⟩
theorem MapIs.look (h : MapIs w P k q b n f) (hk : P.underlying k = some (.int q)) (ht : P.underlying t = some (.map k e)) {z : Value} (hz : (zeroValue e).run P w = .ok z w) {x : Int} (hx : (Lit.int q x).wf = true) :
    (Instr.lookup t (.map (some b)) (.int q x) false).run P w = .ok ((f x).getD z) w := by
  obtain ⟨D, h1, h2⟩ := h
  obtain ⟨v, ps, hrun, hv⟩ := h1.lookup (int_keyed hk) ht hz rfl (keyOf_int_mk hk hx)
  rw [(h2 x hx).2 z] at hv
  simp only [Option.some.injEq, Prod.mk.injEq, DataW.held.injEq] at hv
  rw [hrun, hv.1]
theorem MapIs.look_ok (h : MapIs w P k q b n f) (hk : P.underlying k = some (.int q)) (ht : P.underlying t = some (.map k e)) {z : Value} (hz : (zeroValue e).run P w = .ok z w) {x : Int} (hx : (Lit.int q x).wf = true) :
    (Instr.lookup t (.map (some b)) (.int q x) true).run P w = .ok (.tuple #[(f x).getD z, .bool (f x).isSome]) w := by
  obtain ⟨D, h1, h2⟩ := h
  obtain ⟨v, ps, hrun, hv⟩ := h1.look_ok (int_keyed hk) ht hz rfl (keyOf_int_mk hk hx)
  rw [(h2 x hx).2 z] at hv
  simp only [Option.some.injEq, Prod.mk.injEq, DataW.held.injEq] at hv
  rw [hrun, hv.1, (h2 x hx).1]
theorem MapIs.store (h : MapIs w P k q b n f) (hk : P.underlying k = some (.int q)) (ht : P.underlying t = some (.map k e)) (hn : n < maxLen) {x : Int} (hx : (Lit.int q x).wf = true) (v : Value) :
    ∃ w', (Instr.mapUpdate t (.map (some b)) (.int q x) v).run P w = .ok () w' ∧ MapIs w' P k q b (n + 1) (upd f x v) ∧ w.grownBy w' (some b) := by
  obtain ⟨D, h1, h2⟩ := h
  obtain ⟨w', hrun, h3, hg⟩ := h1.update (int_keyed hk) ht hn (keyOf_int_mk hk hx) (val := v) rfl
  have hm := h1.isMap
  have hkl : WideAt.IsKeyLit (.int q x) := (int_keyed hk).key (keyOf_int_mk hk hx)
  refine ⟨w', hrun, ⟨_, h3, fun y hy => ?_⟩, hg⟩
  by_cases hyx : y = x
  · subst hyx
    refine ⟨?_, fun z => ?_⟩
    · rw [has_put_same hm hkl]; simp [upd]
    · rw [atKey_put_same hm hkl]; simp [upd]
  · have hne : (Lit.int q y) ≠ .int q x := fun e => hyx (by injection e)
    refine ⟨?_, fun z => ?_⟩
    · rw [has_put_other hne, (h2 y hy).1]; simp [upd, hyx]
    · rw [atKey_put_other hne, (h2 y hy).2 z]; simp [upd, hyx]
end
end Go.Proofs.Ytbmkbnalembbjaa

namespace Go.Proofs.Ytbmkbnalembbjaa
open Go.RowKit
structure SpotOk (a : List Int) (s : Spot) : Prop where
  loc0 : 0 ≤ s.loc
  r0 : 0 ≤ s.r
  b0 : 0 ≤ s.b
  t0 : 0 ≤ s.t
  t1 : s.t ≤ 65535
  fits : s.loc + s.long ≤ a.length
  free : s.f = true → s.r = 0 ∧ s.t = 0
  word : a[s.loc.toNat]? = some (wordOf s.r s.b s.t s.f)
  head : headE s.r s.b s.t s.f = 0
  fit256 : s.long ≤ 256
theorem readOk_word {v : Int} (h : readOk v) : wordOf (rdR v) (rdB v) (rdT v) (rdF v) = v := by
  obtain ⟨hz, hE⟩ := h
  unfold wordOf rdF
  have h2 : v / 281474976710656 % 2 = v / 281474976710656 := by omega
  have h3 : v / 281474976710656 = 0 ∨ v / 281474976710656 = 1 := by omega
  unfold rdR rdB rdT
  rcases h3 with h3 | h3
  · rw [h3]; simp; omega
  · rw [h3]; simp; omega
theorem spotOk_of {a : List Int} {j : Nat} (h : j < a.length) (h1 : readOk (a.getD j 0)) (h2 : j + hlen (a.getD j 0) ≤ a.length) : SpotOk a (spotOf j (a.getD j 0)) := by
  have hE := headE_ok.1 h1.2
  have hl : hlen (a.getD j 0) = 1 + rdR (a.getD j 0) + rdB (a.getD j 0) := by unfold hlen; omega
  refine ⟨?_, hE.1, hE.2.2.1, hE.2.2.2.2.1, hE.2.2.2.2.2.1, ?_, hE.2.2.2.2.2.2.2, ?_, h1.2, ?_⟩
  · simp [spotOf]
  · simp only [spotOf, Spot.long]; omega
  · simp only [spotOf, Int.toNat_natCast]
    rw [readOk_word h1, List.getElem?_eq_getElem h]
    simp [h]
  · simp only [spotOf, Spot.long]; omega
theorem parse_mem {a : List Int} : ∀ {l : List Spot} {i : Nat}, Parse a i l → ∀ s ∈ l, SpotOk a s ∧ (i : Int) ≤ s.loc := by
  intro l
  induction l with
  | nil => intro i _ s hs; cases hs
  | cons x l ih =>
    rintro i ⟨h1, h2, rfl, h4, h5⟩ s hs
    rcases List.mem_cons.1 hs with rfl | hs
    · exact ⟨spotOk_of h1 h2 h4, by simp [spotOf]⟩
    · have := ih h5 s hs
      have := hlen_pos h2
      exact ⟨(ih h5 s hs).1, by omega⟩
theorem parse_order {a : List Int} : ∀ {l : List Spot} {i : Nat}, Parse a i l → l.Pairwise (fun s t => s.loc + s.long ≤ t.loc) := by
  intro l
  induction l with
  | nil => intro i _; exact List.Pairwise.nil
  | cons x l ih =>
    rintro i ⟨h1, h2, rfl, h4, h5⟩
    refine List.pairwise_cons.2 ⟨fun s hs => ?_, ih h5⟩
    have hE := headE_ok.1 h2.2
    have := (parse_mem h5 s hs).2
    have hl : hlen (a.getD i 0) = 1 + rdR (a.getD i 0) + rdB (a.getD i 0) := by unfold hlen; omega
    simp only [spotOf, Spot.long]
    omega
theorem spots_rise {a : List Int} (h : spotsE a = 0) : (spotsL a).Pairwise (fun s t => s.loc < t.loc) := by
  have hp := (parse_ok h).2
  refine (parse_order hp).imp_of_mem (fun {s t} hs _ hst => ?_)
  have := (parse_mem hp s hs).1
  have := this.r0
  have := (parse_mem hp s hs).1.b0
  unfold Spot.long at hst
  omega
def isPlace (v : Int) (s : Spot) : Bool := !s.f && (s.loc + 1 == v)
def placeF (l : List Spot) (v : Int) : Option Int := if v = 0 then some (-1) else (l.findIdx? (isPlace v)).map (fun (i : Nat) => (i : Int))
def placeV (l : List Spot) : Int → Option Value := fun v => (placeF l v).map (.int .i64)
theorem placeV_nil : placeV [] = upd (fun _ => none) 0 (.int .i64 (-1)) := by
  funext v
  simp only [placeV, placeF, upd]
  by_cases h : v = 0 <;> simp [h]
theorem placeV_free {l : List Spot} {s : Spot} (h : s.f = true) : placeV (l ++ [s]) = placeV l := by
  funext v
  simp only [placeV, placeF]
  by_cases hv : v = 0
  · simp [hv]
  · rw [if_neg hv, if_neg hv, List.findIdx?_append]
    have : List.findIdx? (isPlace v) [s] = none := by
      rw [List.findIdx?_eq_none_iff]
      intro x hx
      obtain rfl := List.mem_singleton.1 hx
      simp [isPlace, h]
    rw [this]
    simp
theorem placeV_snoc {l : List Spot} {s : Spot} (h : s.f = false) (h0 : 0 ≤ s.loc) (hl : ∀ x ∈ l, x.loc < s.loc) : placeV (l ++ [s]) = upd (placeV l) (s.loc + 1) (.int .i64 l.length) := by
  funext v
  simp only [placeV, placeF, upd]
  by_cases hv : v = 0
  · rw [if_pos hv, if_pos hv, if_neg (by omega)]
  · rw [if_neg hv, if_neg hv, List.findIdx?_append]
    by_cases hs : v = s.loc + 1
    · rw [if_pos hs]
      have h1 : l.findIdx? (isPlace v) = none := by
        rw [List.findIdx?_eq_none_iff]
        intro x hx
        have := hl x hx
        simp [isPlace]
        omega
      have h2 : List.findIdx? (isPlace v) [s] = some 0 := by
        simp [List.findIdx?_cons, isPlace, h, hs]
      rw [h1, h2]
      simp
    · rw [if_neg hs]
      have h2 : List.findIdx? (isPlace v) [s] = none := by
        rw [List.findIdx?_eq_none_iff]
        intro x hx
        obtain rfl := List.mem_singleton.1 hx
        simp [isPlace]
        omega
      rw [h2]
      simp
def refsOf (a : List Int) (s : Spot) : List Int := (a.drop (s.loc.toNat + 1)).take s.r.toNat
def bodyOf (a : List Int) (s : Spot) : List Int := (a.drop (s.loc.toNat + 1 + s.r.toNat)).take s.b.toNat
def refsOk (l : List Spot) (a : List Int) : Bool := l.all fun s => (refsOf a s).all fun v => (placeF l v).isSome
def checkE (a : List Int) : Int := if spotsE a ≠ 0 then spotsE a else if refsOk (spotsL a) a = true then 0 else 5
theorem checkE_ok {a : List Int} : checkE a = 0 ↔ spotsE a = 0 ∧ refsOk (spotsL a) a = true := by
  unfold checkE
  split
  · rename_i h; exact ⟨fun h2 => absurd h2 h, fun h2 => absurd h2.1 h⟩
  · rename_i h
    split
    · rename_i h2; exact ⟨fun _ => ⟨by simpa using h, h2⟩, fun _ => rfl⟩
    · rename_i h2; exact ⟨(fun h3 => by cases h3), fun h3 => absurd h3.2 h2⟩
theorem refsOf_length {a : List Int} {s : Spot} (h : SpotOk a s) : (refsOf a s).length = s.r.toNat := by
  have h1 := h.loc0
  have h2 := h.r0
  have h3 := h.b0
  have h4 := h.fits
  unfold Spot.long at h4
  unfold refsOf
  rw [List.length_take, List.length_drop]
  omega
theorem bodyOf_length {a : List Int} {s : Spot} (h : SpotOk a s) : (bodyOf a s).length = s.b.toNat := by
  have h1 := h.loc0
  have h2 := h.r0
  have h3 := h.b0
  have h4 := h.fits
  unfold Spot.long at h4
  unfold bodyOf
  rw [List.length_take, List.length_drop]
  omega
theorem Reads.sub {w : World} {B : Nat} {A : Option Addr} {n c lo hi : Nat} {xs : List Value} (h : Reads w B 1 A n xs) (h1 : lo ≤ hi) (h2 : hi ≤ n) (h3 : n ≤ c) :
    Reads w B 1 (if c = lo then A else A.map (·.add lo)) (hi - lo) ((xs.drop lo).take (hi - lo)) := by
  have hc := h.cut (k := lo) (cap := c) (by omega) h3
  rw [Nat.mul_one] at hc
  refine ⟨by rw [List.length_take, List.length_drop, h.1]; omega, fun hk0 => ?_⟩
  obtain ⟨ad, e, hb, hcell⟩ := hc.2 (by omega)
  refine ⟨ad, e, hb, fun j u hu => hcell j u ?_⟩
  rw [List.getElem?_take] at hu
  split at hu
  · exact hu
  · cases hu
end Go.Proofs.Ytbmkbnalembbjaa

namespace Go.Proofs.Ytbmkbnalembbjaa
open Go.RowKit
def spotV (s : Spot) : Value := .agg #[.int .i64 s.loc, .int .i64 s.r, .int .i64 s.b, .int .i64 s.t, .bool s.f]
set_option maxHeartbeats 400000 in
theorem refs_any (A : Option Addr) (n c B : Nat) (a : List Int) (s : Spot) (w : World) (hr : Reads w B 1 A n (a.map (.int .u64))) (hB : B ≤ w.heap.size) (hc : n ≤ c) (hn : n ≤ 256) (hs : SpotOk a s) :
    Calls Try.prog 95 #[.slice A n c, .agg #[.int .i64 s.loc, .int .i64 s.r, .int .i64 s.b, .int .i64 s.t, .bool s.f]] w fun e w' => Below w.heap.size w w' ∧ ∃ A' c', e = .returned (.slice A' s.r.toNat c') ∧ s.r.toNat ≤ c' ∧ Reads w' B 1 A' s.r.toNat ((refsOf a s).map (.int .u64)) := by
  have hal : a.length = n := by have := hr.1; simpa using this
  have l0 := hs.loc0
  have r0 := hs.r0
  have b0 := hs.b0
  have ft := hs.fits
  clear hs
  obtain ⟨loc, r, b, t, f⟩ := s
  simp only [Spot.long] at ft l0 r0 b0 ⊢
  obtain ⟨i, rfl⟩ := Int.eq_ofNat_of_zero_le l0
  obtain ⟨k, rfl⟩ := Int.eq_ofNat_of_zero_le r0
  rw [hal] at ft
  have HS := Lib.hid (hr.sub (lo := i + 1) (hi := i + 1 + k) (by omega) (by omega) hc)
  have hpos : 0 < n := by omega
  obtain ⟨ad, rfl, had, -⟩ := hr.2 hpos
  rw [Int.toNat_natCast]
  have ek : ∀ (A : Option Addr) (c : Nat), Ending.returned (.slice A (i + 1 + k - (i + 1)) c) = .returned (.slice A k c) := fun A c => by rw [show i + 1 + k - (i + 1) = k by omega]
  have EK := Lib.hid ek
  clear ek
  have HR : Hid ((refsOf a ⟨i, k, b, t, f⟩).map (Value.int .u64) = ((a.map (Value.int .u64)).drop (i + 1)).take (i + 1 + k - (i + 1))) := by
    show _ = _
    simp only [refsOf, Int.toNat_natCast, List.map_take, List.map_drop]
    rw [show i + 1 + k - (i + 1) = k by omega]
  have h1 : i + 1 + k ≤ n := by omega
  clear hal hr l0 r0
  by_cases hci : c = i + 1
  · have HS := HS.out
    rw [if_pos hci, ← HR.out, show i + 1 + k - (i + 1) = k by omega] at HS
    have HS := Lib.hid (HS.alloc hB (.cells #[.int .i64 i, .int .i64 k, .int .i64 b, .int .i64 t, .bool f] 146))
    go_enter Try.func95, Try.ntmps95
    go_wp2
    go_ret
    exact ⟨below_new _ _, _, _, EK.out _ _, by omega, HS.out⟩
  · have HS := HS.out
    rw [if_neg hci, ← HR.out, show i + 1 + k - (i + 1) = k by omega] at HS
    have HS := Lib.hid (HS.alloc hB (.cells #[.int .i64 i, .int .i64 k, .int .i64 b, .int .i64 t, .bool f] 146))
    go_enter Try.func95, Try.ntmps95
    go_wp2
    go_ret
    exact ⟨below_new _ _, _, _, EK.out _ _, by omega, HS.out⟩
theorem zero_int (w : World) : (zeroValue 3).run Try.prog w = .ok (.int .i64 0) w := by kernel_rfl
set_option maxRecDepth 100000 in
set_option maxHeartbeats 1000000 in
theorem places_any (A : Option Addr) (n c : Nat) (l : List Spot) (w : World) (hr : Reads w w.heap.size 5 A n (spotsC l)) (hn : n ≤ 256) (hl : l.Pairwise (fun s t => s.loc < t.loc)) (hb : ∀ s ∈ l, 0 ≤ s.loc ∧ s.loc ≤ 256) :
    Calls Try.prog 94 #[.slice A n c] w fun e w' => Below w.heap.size w w' ∧ ∃ b, e = .returned (.map (some b)) ∧ w.heap.size ≤ b ∧ MapIs w' Try.prog 37 .u64 b 300 (placeV l) := by
  have hll : l.length = n := by have := hr.1; rw [spotsC_length] at this; omega
  have HL := Lib.hid hll
  have HO := Lib.hid hl
  have HB := Lib.hid hb
  clear hll hl hb
  obtain ⟨w1, hins, hM, hg1⟩ := (MapIs.made w Try.prog 37 .u64).store (k := 37) (t := 141) Try.underlying37 Try.underlying141 (by decide) (x := 0) (by decide) (.int .i64 (-1))
  rw [← placeV_nil] at hM
  have hb1 : Below w.heap.size w w1 := (below_new w _).grown hg1 (by simp) (by simp)
  have HM := Lib.hid (hM.mono (show 0 + 1 ≤ 1 by omega))
  clear hM
  have hmm := @run_makeMap Try.prog
  go_enter Try.func94, Try.ntmps94
  go_wp2
  clear hins
  go_loopw [4, 5, 10] (fun _ _ i wr => ∃ j : Nat, j ≤ n ∧ i = .int .i64 j ∧ MapIs wr Try.prog 37 .u64 w.heap.size (j + 1) (placeV (l.take j)) ∧ Below w.heap.size w wr) (fun _ _ i _ => n - (intOf i).toNat)
  case atStart => exact ⟨0, Nat.zero_le _, rfl, HM.out, hb1⟩
  case round =>
    obtain ⟨j, hj, rfl, hM, hb⟩ := hrel
    by_cases hlt : j < n
    · obtain ⟨ad, s, rfl, had, hs, c0, c1, c2, c3, c4⟩ := (hr.below hb).spot hlt
      have hq := HB.out s (List.mem_of_getElem? hs)
      have HT : Hid (l.take (j + 1) = l.take j ++ [s]) := by
        show _ = _
        obtain ⟨h1, rfl⟩ := List.getElem?_eq_some_iff.1 hs
        exact List.take_succ_eq_append_getElem h1
      have HJ : Hid (∀ x ∈ l.take j, x.loc < s.loc) := by
        intro x hx
        rw [List.mem_take_iff_getElem] at hx
        obtain ⟨k, hk, rfl⟩ := hx
        obtain ⟨h1, rfl⟩ := List.getElem?_eq_some_iff.1 hs
        exact List.pairwise_iff_getElem.1 HO.out k j (by omega) h1 (by omega)
      obtain ⟨loc, r, b, t, f⟩ := s
      dsimp only at c0 c1 c2 c3 c4 hq
      have hM0 := hM.alloc (.cells #[.int .i64 loc, .int .i64 r, .int .i64 b, .int .i64 t, .bool f] 146)
      have hb0 := hb.alloc hb.size (.cells #[.int .i64 loc, .int .i64 r, .int .i64 b, .int .i64 t, .bool f] 146)
      clear hM hs
      cases f
      · have hlen : (l.take j).length = j := by rw [List.length_take, HL.out]; omega
        have hP := placeV_snoc (l := l.take j) (s := ⟨loc, r, b, t, false⟩) rfl hq.1 HJ.out
        rw [← HT.out, hlen] at hP
        obtain ⟨w2, hupd, hM2, hg2⟩ := hM0.store (k := 37) (t := 141) Try.underlying37 Try.underlying141 (by unfold maxLen; omega) (x := loc + 1) (by simp [Lit.wf, IntKind.min, IntKind.max, IntKind.signed, IntKind.bits]; omega) (.int .i64 j)
        rw [← hP] at hM2
        have HM2 := Lib.hid hM2
        have hb2 := hb0.grown hg2 hb0.size (by simp)
        clear hP hlen hM2 hM0 hb0
        obtain ⟨q0, q1⟩ := hq
        go_wp2
        go_roundw
        case rel => exact ⟨j + 1, by omega, by go_num, HM2.out, hb2⟩
        case measure => simp [intOf]; omega
      · have HP : Hid (placeV (l.take (j + 1)) = placeV (l.take j)) := by show _ = _; rw [HT.out]; exact placeV_free rfl
        go_wp2
        go_roundw
        case rel => exact ⟨j + 1, by omega, by go_num, by rw [HP.out]; exact hM0.mono (by omega), hb0⟩
        case measure => simp [intOf]; omega
    · have hjn : j = n := by omega
      subst hjn
      rw [List.take_of_length_le (by rw [HL.out]; exact Nat.le_refl _)] at hM
      go_wp2
      go_ret
      exact ⟨hb, _, rfl, Nat.le_refl _, hM.mono (by omega)⟩
theorem spots_bounds {a : List Int} (h : spotsE a = 0) : ∀ s ∈ spotsL a, 0 ≤ s.loc ∧ s.loc ≤ 256 := by
  intro s hs
  obtain ⟨hlen, hp⟩ := parse_ok h
  have := (parse_mem hp s hs).1
  have h1 := this.loc0
  have h2 := this.fits
  have h3 := this.r0
  have h4 := this.b0
  unfold Spot.long at h2
  omega
set_option maxHeartbeats 400000 in
theorem check_bad0 (A : Option Addr) (n c : Nat) (a : List Int) (w : World) (hr : Reads w w.heap.size 1 A n (a.map (.int .u64))) (ha : ∀ x ∈ a, (Lit.int .u64 x).wf = true) (hE : spotsE a ≠ 0) :
    Calls Try.prog 74 #[.slice A n c] w fun e w' => e = .returned (.tuple #[.slice none 0 0, .map none, .int .i64 (checkE a)]) ∧ Below w.heap.size w w' := by
  have H := fun w hr => spots_any A n c a w hr ha
  rw [spotsL_bad hE] at H
  have HH := Lib.hid H
  have hc : checkE a = spotsE a := by unfold checkE; rw [if_pos hE]
  rw [hc]
  clear H hc
  generalize spotsE a = E at *
  have hE1 : (E != 0) = true := by simpa using hE
  go_enter Try.func74, Try.ntmps74
  go_wp2_with (go_at_call 79; refine (HH.out _ hr).mono ?_; rintro e w2 ⟨hb2, A', c', rfl, -⟩)
  go_ret3
  exact ⟨rfl, hb2⟩
set_option maxRecDepth 100000 in
set_option maxHeartbeats 1000000 in
theorem check_parse (A : Option Addr) (n c : Nat) (a : List Int) (w : World) (hr : Reads w w.heap.size 1 A n (a.map (.int .u64))) (hnc : n ≤ c) (ha : ∀ x ∈ a, (Lit.int .u64 x).wf = true) (hE : spotsE a = 0) :
    Calls Try.prog 74 #[.slice A n c] w fun e w' => Below w.heap.size w w' ∧ ((refsOk (spotsL a) a = false ∧ e = .returned (.tuple #[.slice none 0 0, .map none, .int .i64 5])) ∨
      (refsOk (spotsL a) a = true ∧ ∃ A' c' b, e = .returned (.tuple #[.slice A' (spotsL a).length c', .map (some b), .int .i64 0]) ∧ w.heap.size ≤ b ∧ w'.ownsRow w.heap.size 146 5 (.slice A' (spotsL a).length c') (spotsL a).length (spotsC (spotsL a)) ∧ MapIs w' Try.prog 37 .u64 b 300 (placeV (spotsL a)))) := by
  have H := fun w hr => spots_any A n c a w hr ha
  obtain ⟨hlen, hP⟩ := parse_ok hE
  have hrise := spots_rise hE
  have hbnd := spots_bounds hE
  rw [hE] at H
  have HH := Lib.hid H
  have hal : a.length = n := by have := hr.1; simpa using this
  have hn : n ≤ 256 := by omega
  have hm256 := spotsL_length a
  generalize spotsL a = l at *
  have HS := Lib.hid (fun s hs => (parse_mem hP s hs).1)
  have HPl := Lib.hid (fun A n c w hr hn => places_any A n c l w hr hn hrise hbnd)
  clear H hP hE hal hlen hrise hbnd
  go_enter Try.func74, Try.ntmps74
  go_wp2_with (go_at_call 79; refine (HH.out _ hr).mono ?_; rintro e w1 ⟨hb1, A', c', rfl, hown⟩)
  have hrl := Reads.of_own hown
  obtain ⟨m, hm⟩ : ∃ m, m = l.length := ⟨_, rfl⟩
  rw [← hm] at hrl hm256 hown
  rw [← hm]
  have HM := Lib.hid hm
  clear hm
  go_wp2_with fail
  refine (HPl.out _ _ _ _ hrl hm256).mono ?_
  rintro e w2 ⟨hb2, b, rfl, hbb, hMp⟩
  have hown2 := own_below hown hb2
  have hrl2 := (hrl.below hb2).more hb2.size
  have hb02 := below_step hb1 hb2
  have hbw : w.heap.size ≤ b := Nat.le_trans hb1.size hbb
  have hblt := hMp.lt
  clear hown hrl hb1 hb2 hbb
  go_wp2
  go_loopw [26] (fun i wr => ∃ j : Nat, j ≤ m ∧ i = .int .i64 j ∧ Below w2.heap.size w2 wr ∧ Hid (∀ s ∈ l.take j, (refsOf a s).all (fun v => (placeF l v).isSome) = true)) (fun i _ => m - (intOf i).toNat)
  case atStart => exact ⟨0, Nat.zero_le _, rfl, Below.refl _ _, by intro s hs; simp at hs⟩
  case round =>
    obtain ⟨j, hj, rfl, hb, hD⟩ := hrel
    by_cases hlt : j < m
    · obtain ⟨ad, s, rfl, had, hs, c0, c1, c2, c3, c4⟩ := (hrl2.below hb).spot hlt
      have hok := HS.out s (List.mem_of_getElem? hs)
      have hbw2 := hb02.trans (hb.mono hb02.size)
      have HT : Hid (l.take (j + 1) = l.take j ++ [s]) := by
        show _ = _
        obtain ⟨h1, rfl⟩ := List.getElem?_eq_some_iff.1 hs
        exact List.take_succ_eq_append_getElem h1
      have HSM : Hid (s ∈ l) := List.mem_of_getElem? hs
      have hb0 := hb.alloc hb.size (.cells (spotC s).toArray 146)
      have hbw0 := hbw2.alloc hbw2.size (.cells (spotC s).toArray 146)
      have HR := Lib.hid (refs_any A n c _ a s _ ((hr.below hbw0).more hbw0.size) (Nat.le_refl _) hnc hn hok)
      have hr0 := hok.r0
      have HF := Lib.hid (refsOf_length hok)
      have hr256 : s.r.toNat ≤ 256 := by have h1 := hok.fit256; unfold Spot.long at h1; have := hok.b0; omega
      clear hs hok hb hbw2
      have HRef : Hid (∃ rs, rs = refsOf a s) := ⟨_, rfl⟩
      go_wp2_with fail
      refine HR.out.mono ?_
      rintro e w3 ⟨hb3, A3, c3, rfl, hc3, hrr⟩
      have hb13 := hb0.trans (hb3.mono hb0.size)
      obtain ⟨q, hq⟩ : ∃ q, q = s.r.toNat := ⟨_, rfl⟩
      rw [← hq] at hrr hr256 hc3
      rw [← hq]
      have HQ := Lib.hid hq
      obtain ⟨rs, hrs⟩ : ∃ rs, rs = refsOf a s := ⟨_, rfl⟩
      rw [← hrs] at hrr
      have HRS := Lib.hid hrs
      have hrr' := hrr.more hb3.size
      have hb03 := hbw0.trans (hb3.mono hbw0.size)
      have hMr := hMp.below hb13 hblt
      have hbl3 : b < w3.heap.size := hMr.lt
      obtain ⟨wo, rfl⟩ : ∃ wo : World, wo = wr := ⟨_, rfl⟩
      clear hb0 hbw0 hb3 hrr hq hrs hr0
      go_wp2
      go_loopw [11, 34] (fun _ i wr => ∃ p : Nat, p ≤ q ∧ i = .int .i64 p ∧ Below w3.heap.size w3 wr ∧ Hid (∀ v ∈ rs.take p, (placeF l v).isSome = true)) (fun _ i _ => q - (intOf i).toNat)
      case atStart => exact ⟨0, Nat.zero_le _, rfl, Below.refl _ _, by intro s hs; simp at hs⟩
      case round =>
        obtain ⟨p, hp, rfl, hb, hD2⟩ := hrel
        by_cases hlt2 : p < q
        · obtain ⟨ad3, v, rfl, had3, hv, hc⟩ := (hrr'.below hb).num hlt2
          have hvm : v ∈ a := by
            have := List.mem_of_getElem? hv
            rw [HRS.out] at this
            unfold refsOf at this
            exact List.mem_of_mem_drop (List.mem_of_mem_take this)
          have hvw := ha v hvm
          have hlook := (hMr.below hb hbl3).look_ok Try.underlying37 Try.underlying141 (zero_int _) hvw
          have hpv : (placeV l v).isSome = (placeF l v).isSome := by unfold placeV; rw [Option.isSome_map]
          rw [hpv] at hlook
          have HV := Lib.hid hv
          clear hv hvm hvw hpv
          generalize hgd : (placeV l v).getD (.int .i64 0) = gd at hlook
          clear hgd
          cases hsome : (placeF l v).isSome
          · rw [hsome] at hlook
            have HSo := Lib.hid hsome
            clear hsome
            go_wp2
            go_ret3
            refine ⟨hb03.trans (hb.mono hb03.size), .inl ⟨?_, rfl⟩⟩
            unfold refsOk
            rw [List.all_eq_false]
            refine ⟨s, HSM.out, ?_⟩
            rw [Bool.not_eq_true, List.all_eq_false]
            exact ⟨v, by rw [← HRS.out]; exact List.mem_of_getElem? HV.out, by rw [HSo.out]; decide⟩
          · rw [hsome] at hlook
            have HSo := Lib.hid hsome
            clear hsome
            go_wp2
            go_roundw
            case rel => exact ⟨p + 1, by omega, by go_num, hb, fun x hx => by
              rcases take_succ_mem HV.out x hx with h | rfl
              · exact hD2.out x h
              · exact HSo.out⟩
            case measure => simp [intOf]; omega
        · have hpq : p = q := by omega
          subst hpq
          have HA : Hid (∀ x ∈ l.take (j + 1), (refsOf a x).all (fun v => (placeF l v).isSome) = true) := by
            intro x hx
            rw [HT.out, List.mem_append, List.mem_singleton] at hx
            rcases hx with hx | rfl
            · exact hD.out x hx
            · rw [List.all_eq_true]
              intro v hv
              refine hD2.out v ?_
              rw [← HRS.out] at hv
              rw [List.take_of_length_le (by rw [HRS.out, HF.out, ← HQ.out]; exact Nat.le_refl _)]
              exact hv
          have hb15 := hb13.trans (hb.mono hb13.size)
          clear hD2 hb
          go_wp2
          go_roundw
          case rel => exact ⟨j + 1, by omega, by go_num, hb15, HA⟩
          case measure => simp [intOf]; omega
    · have hjm : j = m := by omega
      subst hjm
      have HA : Hid (refsOk l a = true) := by
        show _ = _
        unfold refsOk
        rw [List.all_eq_true]
        intro s hs
        exact hD.out s (by rw [List.take_of_length_le (by rw [← HM.out]; exact Nat.le_refl _)]; exact hs)
      have hown3 := own_below hown2 hb
      have hM3 := hMp.below hb hblt
      clear hD
      go_wp2
      go_ret3
      have e := HM.out
      subst e
      exact ⟨hb02.trans (hb.mono hb02.size), .inr ⟨HA.out, A', c', b, rfl, hbw, hown3, hM3⟩⟩
theorem refsOk_false {a : List Int} (h0 : spotsE a = 0) (h : refsOk (spotsL a) a = false) : checkE a = 5 := by
  unfold checkE
  rw [if_neg (by simp [h0]), if_neg (by simp [h])]
theorem refsOk_true {a : List Int} (h0 : spotsE a = 0) (h : refsOk (spotsL a) a = true) : checkE a = 0 := checkE_ok.2 ⟨h0, h⟩
theorem check_bad (A : Option Addr) (n c : Nat) (a : List Int) (w : World) (hr : Reads w w.heap.size 1 A n (a.map (.int .u64))) (hnc : n ≤ c) (ha : ∀ x ∈ a, (Lit.int .u64 x).wf = true) (hE : checkE a ≠ 0) :
    Calls Try.prog 74 #[.slice A n c] w fun e w' => e = .returned (.tuple #[.slice none 0 0, .map none, .int .i64 (checkE a)]) ∧ Below w.heap.size w w' := by
  by_cases h0 : spotsE a = 0
  · refine (check_parse A n c a w hr hnc ha h0).mono ?_
    rintro e w' ⟨hb, ⟨h1, h2⟩ | ⟨h1, _⟩⟩
    · rw [refsOk_false h0 h1]
      exact ⟨h2, hb⟩
    · exact absurd (refsOk_true h0 h1) hE
  · exact check_bad0 A n c a w hr ha h0
theorem check_ok (A : Option Addr) (n c : Nat) (a : List Int) (w : World) (hr : Reads w w.heap.size 1 A n (a.map (.int .u64))) (hnc : n ≤ c) (ha : ∀ x ∈ a, (Lit.int .u64 x).wf = true) (hE : checkE a = 0) :
    Calls Try.prog 74 #[.slice A n c] w fun e w' => Below w.heap.size w w' ∧ ∃ A' c' b, e = .returned (.tuple #[.slice A' (spotsL a).length c', .map (some b), .int .i64 0]) ∧ w.heap.size ≤ b ∧ w'.ownsRow w.heap.size 146 5 (.slice A' (spotsL a).length c') (spotsL a).length (spotsC (spotsL a)) ∧ MapIs w' Try.prog 37 .u64 b 300 (placeV (spotsL a)) := by
  obtain ⟨h0, h1⟩ := checkE_ok.1 hE
  refine (check_parse A n c a w hr hnc ha h0).mono ?_
  rintro e w' ⟨hb, ⟨h2, _⟩ | ⟨_, h2⟩⟩
  · rw [h1] at h2; cases h2
  · exact ⟨hb, h2⟩
set_option maxHeartbeats 400000 in
theorem checkFn_any (A : Option Addr) (n c : Nat) (a : List Int) (w : World) (hr : Reads w w.heap.size 1 A n (a.map (.int .u64))) (hnc : n ≤ c) (ha : ∀ x ∈ a, (Lit.int .u64 x).wf = true) :
    Calls Try.prog 58 #[.slice A n c] w fun e w' => e = .returned (.int .i64 (checkE a)) ∧ Below w.heap.size w w' := by
  by_cases hE : checkE a = 0
  · have H := Lib.hid (check_ok A n c a w hr hnc ha hE)
    rw [hE]
    clear hE
    go_enter Try.func58, Try.ntmps58
    go_wp2_with fail
    refine H.out.mono ?_
    rintro e w1 ⟨hb, A', c', b, rfl, -, -, -⟩
    go_wp2
    go_ret
    exact ⟨rfl, hb⟩
  · have H := Lib.hid (check_bad A n c a w hr hnc ha hE)
    generalize checkE a = E at *
    clear hE
    go_enter Try.func58, Try.ntmps58
    go_wp2_with fail
    refine H.out.mono ?_
    rintro e w1 ⟨rfl, hb⟩
    go_wp2
    go_ret
    exact ⟨rfl, hb⟩
end Go.Proofs.Ytbmkbnalembbjaa
