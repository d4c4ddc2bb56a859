/-
  Texts joined: DeskMem NewLaw DeskNew DeskAsk DeskFind DeskDeed.
-/
import Derived.Laws.EntriesVeiled
import Derived.Test.YtblkhipbhahmeaaGreatDoorU17
import Derived.Test.YtblkhipbhahmeaaGreatDoorU18
import Derived.Test.YtblkhipbhahmeaaGreatDoorU20
namespace Go.Proofs.YtblkhipbhahmeaaGreatDoor
open Go.RowKit
theorem grown_set (w : World) (p : Addr) (u : Value) : w.grownBy (w.setCell p u) (some p.block) :=
 ⟨rfl, rfl, rfl, by simp, fun k hk hne => by
   rw [Below.heap_setCell w p u k (fun e => hne (by rw [e]))]⟩
theorem grown_of_below {w w' : World} (h : Below w.heap.size w w') (row : Option Nat) : w.grownBy w' row := ⟨h.os, h.tape, h.output, h.size, fun k hk _ => h.block k hk⟩
theorem below_of_grown {B D : Nat} {w w' : World} (h : w.grownBy w' (some D)) (hB : B ≤ w.heap.size) (hD : B ≤ D) : Below B w w' :=
 (Below.refl B w).grown h hB (fun k e => by cases e; exact hD)
theorem Blk.six {w : World} {g : Nat} {t : TypeId} {a b c d e : Value} (h : Blk w g t #[a, b, c, d, e]) : w.cell? ⟨g, 0, none⟩ = some a ∧ w.cell? ⟨g, 1, none⟩ = some b ∧ w.cell? ⟨g, 2, none⟩ = some c ∧ w.cell? ⟨g, 3, none⟩ = some d ∧ w.cell? ⟨g, 4, none⟩ = some e := ⟨h.cell 0, h.cell 1, h.cell 2, h.cell 3, h.cell 4⟩
structure DTab (B : Nat) (w : World) : Prop where
 f : FTab w
 n : NTab w
 m : ∃ m, w.cell? ⟨1, 0, none⟩ = some (.int .i64 m)
 l : 2 < B ∧ 0 < B ∧ 1 < B ∧ 3 < B ∧ 4 < B
theorem DTab.on {B : Nat} {w w' : World} (h : DTab B w) (hb : Below B w w') : DTab B w' := by
 obtain ⟨h1, h2, h3, h4, h5⟩ := h.l
 refine ⟨⟨Nat.lt_of_lt_of_le h.f.1 hb.size, fun k i hk hi => (hb.cell (p := ⟨2, k * 4 + i, none⟩) h1).trans (h.f.2 k i hk hi)⟩, ⟨?_, ?_, ?_⟩, ?_, h.l⟩
 ·exact var_below (by kernel_rfl) h2 h.n.p hb
 ·obtain ⟨t, p, hv⟩ := h.n.s
  exact ⟨t, p, var_below (by kernel_rfl) h4 hv hb⟩
 ·obtain ⟨t, p, hv⟩ := h.n.r
  exact ⟨t, p, var_below (by kernel_rfl) h5 hv hb⟩
 ·obtain ⟨m, hm⟩ := h.m
  exact ⟨m, (hb.cell (p := ⟨1, 0, none⟩) h3).trans hm⟩
def deskC (b : Bool) (A : Option Addr) (n c : Nat) (RA : Option Addr) (rn rc : Nat) (PA : Option Addr) (pn pc : Nat) (HA : Option Addr) (hn hc : Nat) : Array Value := #[.bool b, .slice A n c, .slice RA rn rc, .slice PA pn pc, .slice HA hn hc]
def DeskAt (w : World) (B D : Nat) (os : Option St) : Prop := B ≤ D ∧ match os with
 | none => Blk w D 115 (deskC false none 0 0 none 0 0 none 0 0 none 0 0)
 | some S => StGood S ∧ ∃ (A : Option Addr) (n c : Nat) (RA : Option Addr) (rn rc : Nat) (PA : Option Addr) (pn pc : Nat) (HA : Option Addr) (hn hc : Nat), Blk w D 115 (deskC true A n c RA rn rc PA pn pc HA hn hc) ∧ StO w B A n c RA rn rc PA pn pc HA hn hc S
theorem DeskAt.below {w w' : World} {B D : Nat} {os : Option St} (h : DeskAt w B D os) (hb : Below w.heap.size w w') : DeskAt w' B D os := by
 obtain ⟨h1, h2⟩ := h
 refine ⟨h1, ?_⟩
 cases os with
 | none => exact Blk.below h2 hb h2.lt
 | some S =>
   obtain ⟨hG, A, n, c, RA, rn, rc, PA, pn, pc, HA, hn, hc, hB, hO⟩ := h2
   exact ⟨hG, A, n, c, RA, rn, rc, PA, pn, pc, HA, hn, hc, hB.below hb hB.lt, ⟨own_below hO.a hb, own_below hO.r hb, own_below hO.p hb, own_below hO.l hb⟩⟩
theorem StO.belowS {w w' : World} {base n c rn rc pn pc hn hc : Nat} {A RA PA HA : Option Addr} {S : St} (hO : StO w base A n c RA rn rc PA pn pc HA hn hc S) (hb : Below w.heap.size w w') : StO w' base A n c RA rn rc PA pn pc HA hn hc S := ⟨own_below hO.a hb, own_below hO.r hb, own_below hO.p hb, own_below hO.l hb⟩
theorem StO.apartS {w : World} {base n c rn rc pn pc hn hc D : Nat} {A RA PA HA : Option Addr} {S : St} {cs : Array Value} (hO : StO w base A n c RA rn rc PA pn pc HA hn hc S) (hB : Blk w D 115 cs) (i : Nat) (u : Value) : StO (w.setCell ⟨D, i, none⟩ u) base A n c RA rn rc PA pn pc HA hn hc S :=
 ⟨own_apart hO.a (own_blk hO.a hB (by decide)) u, own_apart hO.r (own_blk hO.r hB (by decide)) u, own_apart hO.p (own_blk hO.p hB (by decide)) u, own_apart hO.l (own_blk hO.l hB (by decide)) u⟩
theorem Reads.one_ {w : World} {g : Nat} {t : TypeId} {u : Value} (h : Blk w g t #[u]) : Reads w w.heap.size 1 (some ⟨g, 0, none⟩) 1 [u] :=
 ⟨rfl, fun _ => ⟨⟨g, 0, none⟩, rfl, h.lt, fun j v hv => by
   cases j with
   | zero => simpa [Addr.add_lit] using (h.cell 0).trans (by simpa using hv)
   | succ j => simp at hv⟩⟩
def DeskPost (w : World) (B D : Nat) (X : DOut) (e : Ending) (w' : World) : Prop := w.grownBy w' (some D) ∧ DeskAt w' B D X.st ∧
 ∃ (A : Option Addr) (m c : Nat), e = .returned (.tuple #[.slice A m c, .int .i64 X.er]) ∧ (X.er = 0 → Reads w' w'.heap.size 1 A m (X.l.map (.int .i64)))
theorem newA_chunks (W : Nat) : newA W = chunksW (flushC W) := by
 unfold newA flushC
 by_cases h : W = 0
 ·rw [if_neg (by omega), if_pos h]
  rfl
 ·rw [if_pos (by omega), if_neg h]
  obtain ⟨p, rfl⟩ : ∃ p, W = p + 1 := ⟨W - 1, by omega⟩
  simp [chunksW, chkW, freeC, List.replicate_succ]
theorem flushOk0 {W : Nat} (hW : W ≤ 256) : ∀ c ∈ flushC W, c.ok := by
 intro c hc
 unfold flushC at hc
 split at hc
 ·simp at hc
 ·rename_i h
  simp only [List.mem_singleton] at hc
  subst hc
  exact freeC_ok h hW
theorem newSt_good {W R H : Nat} (hW : W ≤ 256) (hR : R ≤ 32) (hH : H ≤ 16) : StGood (newSt W R H) := by
 have hok := flushOk0 hW
 have hlen : (chunksW (flushC W)).length ≤ 256 := by rw [flushC_length]; exact hW
 have hbegs : fromL (List.replicate R (-1)) (List.replicate H ⟨0, false, 0⟩) [] = [] := by
  refine List.eq_nil_iff_forall_not_mem.2 (fun x hx => ?_)
  unfold fromL at hx
  rw [compact_mem, sortL_mem] at hx
  rcases List.mem_append.1 hx with hx | hx
  ·rcases List.mem_append.1 hx with hx | hx
   ·have := namedL_mem.1 hx
    have h2 := List.eq_of_mem_replicate this.1
    omega
   ·unfold openL at hx
    obtain ⟨s, hs, -⟩ := List.mem_map.1 hx
    obtain ⟨hs1, hs2⟩ := List.mem_filter.1 hs
    rw [List.eq_of_mem_replicate hs1] at hs2
    cases hs2
  ·simp [pinsL] at hx
 refine ⟨⟨?_, ?_, ⟨Nat.zero_le _, fun x hx => (by cases hx), List.Pairwise.nil⟩, ?_, ?_⟩, ?_⟩
 ·show checkE (newA W) = 0
  rw [newA_chunks, checkE_chunks hok hlen]
  intro c hc v hv
  unfold flushC at hc
  split at hc
  ·simp at hc
  ·simp only [List.mem_singleton] at hc
   subst hc
   simp [freeC] at hv
 ·show rootE (List.replicate R (-1)) (newA W).length = 0
  rw [newA_length]
  refine rootE_of (by omega) (by omega) (by simpa using hR) (fun v hv => ?_)
  rw [List.eq_of_mem_replicate hv]
  omega
 ·show handE (List.replicate H ⟨0, false, 0⟩) = 0
  rw [handE_ok]
  refine ⟨by simpa using hH, fun s hs => ?_⟩
  rw [List.eq_of_mem_replicate hs]
  decide
 ·intro x hx
  have hx : x ∈ fromL (List.replicate R (-1)) (List.replicate H ⟨0, false, 0⟩) [] := hx
  rw [hbegs] at hx
  simp at hx
 ·show W64 (newA W)
  unfold newA
  split
  ·exact set_w64 (fun x hx => by rw [List.eq_of_mem_replicate hx]; rfl) (word_wf (headE_ok.2 ⟨by omega, by omega, by omega, by omega, by omega, by omega, by omega, fun _ => ⟨rfl, rfl⟩⟩))
  ·exact fun x hx => by cases hx
theorem hnew_bad (n : Int) (w : World) (hn : n < 0 ∨ 16 < n) : Calls Tryz.prog 114 #[.int .i64 n] w fun e w' => e = .returned (.tuple #[.slice none 0 0, .int .i64 4]) ∧ w' = w := by
 by_cases h : n < 0
 ·have g1 : decide (n < 0) = true := decide_eq_true h
  go_enter Tryz.func114, Tryz.ntmps114
  go_wp2
  go_ret2
  exact ⟨rfl, rfl⟩
 ·have g1 : decide (n < 0) = false := decide_eq_false h
  have g2 : decide (16 < n) = true := decide_eq_true (by omega)
  go_enter Tryz.func114, Tryz.ntmps114
  go_wp2
  go_ret2
  exact ⟨rfl, rfl⟩
set_option maxRecDepth 100000 in
set_option maxHeartbeats 1000000 in
theorem newFn_bad (W R H : Int) (w : World) (hE : newE W R H ≠ 0) :
  Calls Tryz.prog 98 #[.int .i64 W, .int .i64 R, .int .i64 H] w fun e w' => Below w.heap.size w w' ∧ e = .returned (.tuple #[.agg #[.slice none 0 0, .slice none 0 0, .slice none 0 0, .slice none 0 0], .int .i64 (newE W R H)]) := by
 have hb1 := below_new w (.cells #[.slice none 0 0, .slice none 0 0, .slice none 0 0, .slice none 0 0] 113)
 have DR := Blk.new w 113 #[.slice none 0 0, .slice none 0 0, .slice none 0 0, .slice none 0 0]
 obtain ⟨s0, s1, s2, s3⟩ := DR.four
 by_cases h1 : W < 0 ∨ 256 < W
 ·have hX : newE W R H = 4 := by unfold newE; rw [if_pos h1]
  rw [hX]
  have HW := Lib.hid (fun w => wnew_bad W w h1)
  clear hE hX h1
  go_enter Tryz.func98, Tryz.ntmps98
  go_wp2_with fail
  refine (HW.out _).mono ?_
  rintro e w1 ⟨rfl, rfl⟩
  go_wp2_with fail
  refine bodyPost_ret (v := .tuple #[.agg #[.slice none 0 0, .slice none 0 0, .slice none 0 0, .slice none 0 0], .int .i64 4]) ?_ rfl ⟨hb1, rfl⟩
  simp only [results, Tryz.results98]
  go_simp
 ·obtain ⟨w0, hw0⟩ := Int.eq_ofNat_of_zero_le (show 0 ≤ W by omega)
  subst hw0
  have HW := Lib.hid (fun w => wnew_ok w0 w (by omega))
  have hb2 := hb1.alloc hb1.size (.cells (madeCells #[.int .u64 0] w0) 40)
  have DR2 := DR.alloc (.cells (madeCells #[.int .u64 0] w0) 40)
  obtain ⟨t0, t1, t2, t3⟩ := DR2.four
  by_cases h2 : R < 0 ∨ 32 < R
  ·have hX : newE w0 R H = 4 := by unfold newE; rw [if_neg h1, if_pos h2]
   rw [hX]
   clear hE hX h1
   by_cases h3 : R < 0
   ·have g1 : decide (R < 0) = true := decide_eq_true h3
    clear h2 h3
    go_enter Tryz.func98, Tryz.ntmps98
    go_wp2_with fail
    refine (HW.out _).mono ?_
    rintro e w1 ⟨rfl, rfl⟩
    go_wp2_with fail
    refine bodyPost_ret (v := .tuple #[.agg #[.slice none 0 0, .slice none 0 0, .slice none 0 0, .slice none 0 0], .int .i64 4]) ?_ rfl ⟨hb2, rfl⟩
    simp only [results, Tryz.results98]
    go_simp
   ·have g1 : decide (R < 0) = false := decide_eq_false h3
    have g2 : decide (32 < R) = true := decide_eq_true (by omega)
    clear h2 h3
    go_enter Tryz.func98, Tryz.ntmps98
    go_wp2_with fail
    refine (HW.out _).mono ?_
    rintro e w1 ⟨rfl, rfl⟩
    go_wp2_with fail
    refine bodyPost_ret (v := .tuple #[.agg #[.slice none 0 0, .slice none 0 0, .slice none 0 0, .slice none 0 0], .int .i64 4]) ?_ rfl ⟨hb2, rfl⟩
    simp only [results, Tryz.results98]
    go_simp
  ·have h3 : H < 0 ∨ 16 < H := by
    refine Classical.byContradiction (fun h => hE ?_)
    unfold newE
    rw [if_neg h1, if_neg h2, if_neg h]
   have hX : newE w0 R H = 4 := by unfold newE; rw [if_neg h1, if_neg h2, if_pos h3]
   rw [hX]
   have HHb := Lib.hid (fun w => hnew_bad H w h3)
   have g1 : decide (R < 0) = false := decide_eq_false (by omega)
   have g2 : decide (32 < R) = false := decide_eq_false (by omega)
   clear hE hX h1 h2 h3
   go_enter Tryz.func98, Tryz.ntmps98
   go_wp2_with fail
   refine (HW.out _).mono ?_
   rintro e w1 ⟨rfl, rfl⟩
   go_wp2_with fail
   refine (HHb.out _).mono ?_
   rintro e w2 ⟨rfl, rfl⟩
   go_wp2_with fail
   refine bodyPost_ret (v := .tuple #[.agg #[.slice none 0 0, .slice none 0 0, .slice none 0 0, .slice none 0 0], .int .i64 4]) ?_ rfl ⟨hb2, rfl⟩
   simp only [results, Tryz.results98]
   go_simp
theorem newFn_one (W R H : Int) (w : World) :
  Calls Tryz.prog 98 #[.int .i64 W, .int .i64 R, .int .i64 H] w fun e w' => Below w.heap.size w w' ∧ ∃ (B1 : Option Addr) (n1 d1 : Nat) (B2 : Option Addr) (n2 d2 : Nat) (B3 : Option Addr) (n3 d3 : Nat) (B4 : Option Addr) (n4 d4 : Nat),
   e = .returned (.tuple #[.agg #[.slice B1 n1 d1, .slice B2 n2 d2, .slice B3 n3 d3, .slice B4 n4 d4], .int .i64 (newE W R H)]) ∧ Hid (newE W R H = 0 → StO w' w.heap.size B1 n1 d1 B2 n2 d2 B3 n3 d3 B4 n4 d4 (newSt W.toNat R.toNat H.toNat)) := by
 by_cases hE : newE W R H = 0
 ·have h0 := hE
  unfold newE at h0
  split at h0
  ·cases h0
  ·split at h0
   ·cases h0
   ·split at h0
    ·cases h0
    ·obtain ⟨w0, rfl⟩ := Int.eq_ofNat_of_zero_le (show 0 ≤ W by omega)
     obtain ⟨r0, rfl⟩ := Int.eq_ofNat_of_zero_le (show 0 ≤ R by omega)
     obtain ⟨k0, rfl⟩ := Int.eq_ofNat_of_zero_le (show 0 ≤ H by omega)
     rw [hE]
     refine Calls.mono (newFn_ok w0 r0 k0 w (by omega) (by omega) (by omega)) ?_
     rintro e w' ⟨hb, A1, c1, A2, c2, A4, c4, rfl, hO⟩
     exact ⟨hb, _, _, _, _, _, _, _, _, _, _, _, _, rfl, fun _ => hO⟩
 ·refine Calls.mono (newFn_bad W R H w hE) ?_
  rintro e w' ⟨hb, rfl⟩
  exact ⟨hb, _, _, _, _, _, _, _, _, _, _, _, _, rfl, fun h => absurd h hE⟩
theorem newE_good {W R H : Int} (h : newE W R H = 0) : StGood (newSt W.toNat R.toNat H.toNat) := by
 unfold newE at h
 split at h
 ·cases h
 ·split at h
  ·cases h
  ·split at h
   ·cases h
   ·exact newSt_good (by omega) (by omega) (by omega)
set_option maxRecDepth 100000 in
set_option maxHeartbeats 2000000 in
theorem begin_any (B D : Nat) (os : Option St) (n : List Int) (NA : Option Addr) (nc : Nat) (w : World) (hD : DeskAt w B D os) (hB : B ≤ w.heap.size) (hr : Reads w w.heap.size 1 NA 3 (n.map (.int .i64))) :
  Calls Tryz.prog 81 #[.pointer (some ⟨D, 0, none⟩), .slice NA 3 nc] w (DeskPost w B D (cmdO os .new n)) := by
 have hll : n.length = 3 := by have := hr.1; simpa using this
 obtain ⟨x, y, z, rfl⟩ : ∃ x y z, n = [x, y, z] := by
  match n, hll with
  | [x, y, z], _ => exact ⟨x, y, z, rfl⟩
 have HX : Hid (cmdO os .new [x, y, z] = if newE x y z ≠ 0 then ⟨os, [], newE x y z⟩ else ⟨some (newSt x.toNat y.toNat z.toNat), [], 0⟩) := by
  show _ = _
  cases os <;> rfl
 have HG : Hid (newE x y z = 0 → StGood (newSt x.toNat y.toNat z.toNat)) := newE_good
 have HN := Lib.hid (newFn_one x y z)
 obtain ⟨E, hE⟩ : ∃ E, E = newE x y z := ⟨_, rfl⟩
 obtain ⟨S, hS⟩ : ∃ S, S = newSt x.toNat y.toNat z.toNat := ⟨_, rfl⟩
 rw [← hE, ← hS] at HX HG HN
 obtain ⟨ad, rfl, had, hc⟩ := hr.2 (by decide)
 have c0 := hc 0 (.int .i64 x) rfl
 have c1 := hc 1 (.int .i64 y) rfl
 have c2 := hc 2 (.int .i64 z) rfl
 rw [show ad.add 0 = ad from rfl] at c0
 rw [addr_add_pos ad 1 (by decide)] at c1
 rw [addr_add_pos ad 2 (by decide)] at c2
 have hDB : ∃ b A1 n1 d1 A2 n2 d2 A3 n3 d3 A4 n4 d4, Blk w D 115 (deskC b A1 n1 d1 A2 n2 d2 A3 n3 d3 A4 n4 d4) := by
  obtain ⟨-, h⟩ := hD
  cases os with
  | none => exact ⟨_, _, _, _, _, _, _, _, _, _, _, _, _, h⟩
  | some S0 =>
    obtain ⟨-, A, n, c, RA, rn, rc, PA, pn, pc, HA, hn, hc, h, -⟩ := h
    exact ⟨_, _, _, _, _, _, _, _, _, _, _, _, _, h⟩
 obtain ⟨b, A1, n1, d1, A2, n2, d2, A3, n3, d3, A4, n4, d4, hDB⟩ := hDB
 have HD := Lib.hid hD
 have HBD := Lib.hid hD.1
 clear hll hr hE hS hc hD
 go_enter Tryz.func81, Tryz.ntmps81
 go_upto_region 1 with fail
 go_cut [6, 7] from 8 to 31 (fun s6 s7 wc => ∃ (g : Nat) (B1 : Option Addr) (m1 f1 : Nat) (B2 : Option Addr) (m2 f2 : Nat) (B3 : Option Addr) (m3 f3 : Nat) (B4 : Option Addr) (m4 f4 : Nat), s6 = .pointer (some ⟨g, 0, none⟩) ∧ s7 = .int .i64 E ∧ w.heap.size ≤ g ∧ Blk wc g 113 #[.slice B1 m1 f1, .slice B2 m2 f2, .slice B3 m3 f3, .slice B4 m4 f4] ∧
  Hid (E = 0 → StO wc w.heap.size B1 m1 f1 B2 m2 f2 B3 m3 f3 B4 m4 f4 S) ∧ Below w.heap.size w wc)
 case first =>
  have hbd := (Below.refl w.heap.size w).drew
  have hbz := (below_new w (.cells #[.slice none 0 0, .slice none 0 0, .slice none 0 0, .slice none 0 0] 113)).drew
  have hNz := (Blk.new w 113 #[.slice none 0 0, .slice none 0 0, .slice none 0 0, .slice none 0 0]).drew
  have ne1 : ad.block ≠ w.heap.size := by omega
  have ne2 : w.heap.size ≠ ad.block := by omega
  have HQ : Hid (∀ wx wA : World, Below w.heap.size w wx → Below wx.heap.size wx wA → wA.cell? ad = some (.int .i64 x) ∧ wA.cell? ⟨ad.block, ad.off + 1, none⟩ = some (.int .i64 y) ∧ wA.cell? ⟨ad.block, ad.off + 2, none⟩ = some (.int .i64 z)) := fun wx wA h1 h2 => by
   have h3 := below_step h1 h2
   exact ⟨(h3.cell (p := ad) had).trans c0, (h3.cell (p := ⟨ad.block, ad.off + 1, none⟩) had).trans c1, (h3.cell (p := ⟨ad.block, ad.off + 2, none⟩) had).trans c2⟩
  go_region_held3 (fun w' => w'.cell? ad = some (.int .i64 x) ∧ w'.cell? ⟨ad.block, ad.off + 1, none⟩ = some (.int .i64 y) ∧ w'.cell? ⟨ad.block, ad.off + 2, none⟩ = some (.int .i64 z)) (go_keep)
   (first
     | (go_at_call 98; (with_reducible refine (HN.out _).mono ?_); rintro e wA ⟨hbA, B1, m1, f1, B2, m2, f2, B3, m3, f3, B4, m4, f4, rfl, hO⟩; have hN0 := hNz.below hbA hNz.lt; obtain ⟨q0, q1, q2⟩ := HQ.out _ _ hbz hbA; obtain ⟨x0, x1, x2, x3⟩ := hN0.four; obtain ⟨y0, y1, y2, y3⟩ := hN0.four_frozen)
     | (go_at_call 98; (with_reducible refine (HN.out _).mono ?_); rintro e wA ⟨hbA, B1, m1, f1, B2, m2, f2, B3, m3, f3, B4, m4, f4, rfl, hO⟩; obtain ⟨q0, q1, q2⟩ := HQ.out _ _ hbd hbA))
  all_goals
   go_wp2_with fail
   go_meet
  ·exact ⟨_, B1, m1, f1, B2, m2, f2, B3, m3, f3, B4, m4, f4, rfl, rfl, hbA.size, Blk.new wA _ _, fun h => ((hO.out h).mono hbd.size).belowS (below_new wA _), (below_step hbd hbA).alloc (below_step hbd hbA).size _⟩
  ·exact ⟨_, B1, m1, f1, B2, m2, f2, B3, m3, f3, B4, m4, f4, rfl, rfl, Nat.le_refl _, (((hN0.set_ 0 _).set_ 1 _).set_ 2 _).set_ 3 _, fun h => ((hO.out h).mono hbz.size).store hN0 _ _ _ _, below_block4 (below_step hbz hbA) (Nat.le_refl _) _ _ _ _⟩
 case rest =>
  obtain ⟨g, B1, m1, f1, B2, m2, f2, B3, m3, f3, B4, m4, f4, rfl, rfl, hg, DG, HOo, hbc⟩ := hcut
  have hDBc := hDB.below hbc hDB.lt
  have hgr := grown_of_below hbc (some D)
  by_cases hE : E = 0
  ·have gE : (E == 0) = true := by simpa using hE
   have hO := HOo.out hE
   have HY : Hid (cmdO os .new [x, y, z] = ⟨some S, [], E⟩) := by
    show _ = _
    rw [HX.out, if_neg (fun h => h hE), hE]
   obtain ⟨x0, x1, x2, x3⟩ := DG.four
   have y0 := hDBc.cell 0
   have y1 := hDBc.cell 1
   have y2 := hDBc.cell 2
   have y3 := hDBc.cell 3
   have y4 := hDBc.cell 4
   have z0 := hDBc.frozen 0
   have z1 := hDBc.frozen 1
   have z2 := hDBc.frozen 2
   have z3 := hDBc.frozen 3
   have z4 := hDBc.frozen 4
   simp only [deskC, List.getElem?_toArray, List.getElem?_cons_zero, List.getElem?_cons_succ] at y0 y1 y2 y3 y4
   have k1 := hDBc.set_ 1 (.slice B1 m1 f1)
   have k2 := k1.set_ 2 (.slice B2 m2 f2)
   have k3 := k2.set_ 3 (.slice B3 m3 f3)
   have k4 := k3.set_ 4 (.slice B4 m4 f4)
   have k5 := k4.set_ 0 (.bool true)
   have hOz := (((((hO.mono hB).apartS hDBc 1 (.slice B1 m1 f1)).apartS k1 2 (.slice B2 m2 f2)).apartS k2 3 (.slice B3 m3 f3)).apartS k3 4 (.slice B4 m4 f4)).apartS k4 0 (.bool true)
   have hgz := ((((hgr.trans (grown_set _ ⟨D, 1, none⟩ (.slice B1 m1 f1))).trans (grown_set _ ⟨D, 2, none⟩ (.slice B2 m2 f2))).trans (grown_set _ ⟨D, 3, none⟩ (.slice B3 m3 f3))).trans (grown_set _ ⟨D, 4, none⟩ (.slice B4 m4 f4))).trans (grown_set _ ⟨D, 0, none⟩ (.bool true))
   have HA : Hid (DeskPost w B D (cmdO os .new [x, y, z]) (.returned (.tuple #[.slice none 0 0, .int .i64 E])) (((((wc.setCell ⟨D, 1, none⟩ (.slice B1 m1 f1)).setCell ⟨D, 2, none⟩ (.slice B2 m2 f2)).setCell ⟨D, 3, none⟩ (.slice B3 m3 f3)).setCell ⟨D, 4, none⟩ (.slice B4 m4 f4)).setCell ⟨D, 0, none⟩ (.bool true))) := by
    show DeskPost _ _ _ _ _ _
    rw [HY.out]
    exact ⟨hgz, ⟨HBD.out, HG.out hE, B1, m1, f1, B2, m2, f2, B3, m3, f3, B4, m4, f4, k5, hOz⟩, none, 0, 0, rfl, fun _ => Reads.none_⟩
   clear k1 k2 k3 k4 k5 hOz hgz hgr DG hDBc hDB HOo hE hO HY HX HD HG HN c0 c1 c2
   go_wp2_with fail
   go_ret2
   exact HA.out
  ·have gE : (E == 0) = false := by simpa using hE
   have HA : Hid (DeskPost w B D (cmdO os .new [x, y, z]) (.returned (.tuple #[.slice none 0 0, .int .i64 E])) wc) := by
    show DeskPost _ _ _ _ _ _
    rw [HX.out, if_pos hE]
    exact ⟨hgr, HD.out.below hbc, none, 0, 0, rfl, fun _ => Reads.none_⟩
   clear DG hDBc hDB HOo hE HX HD HG HN c0 c1 c2
   go_wp2_with fail
   go_ret2
   exact HA.out
set_option maxRecDepth 100000 in
set_option maxHeartbeats 2000000 in
theorem droots_any (B D : Nat) (S : St) (v : Value) (w : World) (hD : DeskAt w B D (some S)) :
  Calls Tryz.prog 85 #[.pointer (some ⟨D, 0, none⟩), v] w (DeskPost w B D (cmdO (some S) .roots [])) := by
 have HD := Lib.hid hD
 obtain ⟨hBD, hG, A1, n1, d1, A2, n2, d2, A3, n3, d3, A4, n4, d4, hDB, hDO⟩ := hD
 have y2 := hDB.cell 2
 simp only [deskC, List.getElem?_toArray, List.getElem?_cons_zero, List.getElem?_cons_succ] at y2
 have hr := hDO.reads.r
 have hgr := grown_of_below (Below.refl w.heap.size w) (some D)
 go_enter Tryz.func85, Tryz.ntmps85
 go_wp2_with fail
 go_ret2
 exact ⟨hgr, HD.out, A2, n2, d2, rfl, fun _ => hr⟩
set_option maxRecDepth 100000 in
set_option maxHeartbeats 2000000 in
theorem dlive_any (B D : Nat) (S : St) (v : Value) (w : World) (hD : DeskAt w B D (some S)) :
  Calls Tryz.prog 84 #[.pointer (some ⟨D, 0, none⟩), v] w (DeskPost w B D (cmdO (some S) .live [])) := by
 have HD := Lib.hid hD
 obtain ⟨hBD, hG, A1, n1, d1, A2, n2, d2, A3, n3, d3, A4, n4, d4, hDB, hDO⟩ := hD
 obtain ⟨y0, y1, y2, y3, y4⟩ := hDB.six
 have HL := Lib.hid (live_any A1 n1 d1 A2 n2 d2 A3 n3 d3 A4 n4 d4 S w hDO.reads (hDO.known hG.wf))
 have hln := hDO.reads.lens.1
 have hst := stE_ok.2 hG.ok
 go_enter Tryz.func84, Tryz.ntmps84
 go_wp2_with fail
 refine HL.out.mono ?_
 rintro e w1 ⟨hb, ⟨-, S', fr, L, Y, now, hC, rfl⟩ | ⟨h0, -⟩⟩
 ·have HA : Hid (DeskPost w B D (cmdO (some S) .live []) (.returned (.tuple #[.slice (some ⟨w1.heap.size, 0, none⟩) 1 1, .int .i64 0])) (w1.alloc (.cells #[.int .i64 (n1 - fr)] 3))) := by
   show DeskPost _ _ _ _ _ _
   have hX : cmdO (some S) .live [] = ⟨some S, [(n1 : Int) - fr], 0⟩ := by
    show (⟨some S, [(S.a.length : Int) - (sweep S).2], 0⟩ : DOut) = _
    rw [hC.sweep, hln]
   rw [hX]
   exact ⟨(grown_of_below hb _).trans (World.grownBy_alloc _ _ _), (HD.out.below hb).below (below_new _ _), _, 1, 1, rfl, fun _ => Reads.one_ (Blk.new w1 3 #[.int .i64 (n1 - fr)])⟩
  clear y0 y1 y2 y3 y4 hDB hDO hG hC hst HL HD hb
  go_wp2_with fail
  go_ret2
  exact HA.out
 ·exact absurd hst h0
theorem gapsV_snoc (l : List Rn) (r : Rn) : (l ++ [r]).flatMap (fun r => [r.loc, r.len]) = l.flatMap (fun r => [r.loc, r.len]) ++ [r.loc, r.len] := by simp
set_option maxRecDepth 100000 in
set_option maxHeartbeats 2000000 in
theorem dgaps_any (B D : Nat) (S : St) (v : Value) (w : World) (hD : DeskAt w B D (some S)) :
  Calls Tryz.prog 83 #[.pointer (some ⟨D, 0, none⟩), v] w (DeskPost w B D (cmdO (some S) .gaps [])) := by
 have HD := Lib.hid hD
 obtain ⟨hBD, hG, A1, n1, d1, A2, n2, d2, A3, n3, d3, A4, n4, d4, hDB, hDO⟩ := hD
 have y1 := hDB.cell 1
 simp only [deskC, List.getElem?_toArray, List.getElem?_cons_zero, List.getElem?_cons_succ] at y1
 have hK := hDO.known hG.wf
 have HGp := Lib.hid (ggapsE_any A1 n1 d1 S.a w hDO.reads.a hK.cap hK.wf)
 rw [hG.ok.arena] at HGp
 have HX : Hid (cmdO (some S) .gaps [] = ⟨some S, (ggL S.a).flatMap (fun r => [r.loc, r.len]), 0⟩) := rfl
 have HGL : Hid ((ggL S.a).length ≤ 257) := ggL_length
 generalize hg : ggL S.a = G at *
 obtain ⟨i0, hi, hz0, hz1, hz2⟩ := info_parts info_int
 clear hg hK hDB hDO hG
 go_enter Tryz.func83, Tryz.ntmps83
 go_wp2_with fail
 refine HGp.out.mono ?_
 rintro e w1 ⟨hb, A', c', rfl, hO⟩
 have hr := Reads.of_own hO
 have HB := Lib.hid hb
 clear y1 hO HGp hb
 go_wp2_with fail
 go_loopw [8, 22] (fun o i wr => ∃ (j : Nat) (A5 : Option Addr) (c5 : Nat), j ≤ G.length ∧ i = .int .i64 j ∧ o = .slice A5 (2 * j) c5 ∧ wr.ownsRow w1.heap.size 3 1 (.slice A5 (2 * j) c5) (2 * j) (((G.take j).flatMap (fun r => [r.loc, r.len])).map (.int .i64)) ∧ Below w1.heap.size w1 wr) (fun _ i _ => G.length - (intOf i).toNat)
 case atStart => exact ⟨0, none, 0, Nat.zero_le _, rfl, rfl, World.ownsRow_nil _ _ _ _, Below.refl _ _⟩
 case round =>
  obtain ⟨j, A5, c5, hj, rfl, rfl, hown, hb⟩ := hrel
  by_cases hlt : j < G.length
  ·obtain ⟨ad, x, rfl, had, hx, c0, c1⟩ := (hr.below hb).run hlt
   have HQ : Hid ((G.take (j + 1)).flatMap (fun r => [r.loc, r.len]) = (G.take j).flatMap (fun r => [r.loc, r.len]) ++ [x.loc, x.len]) := by
    show _ = _
    obtain ⟨h1, rfl⟩ := List.getElem?_eq_some_iff.1 hx
    rw [List.take_succ_eq_append_getElem h1, gapsV_snoc]
   clear hx
   obtain ⟨loc, len⟩ := x
   dsimp only at c0 c1 HQ
   have hown0 := (hown.alloc (.cells #[.int .i64 loc, .int .i64 len] 99)).alloc (.cells #[.int .i64 loc, .int .i64 len] 3)
   have hb1 := hb.alloc hb.size (.cells #[.int .i64 loc, .int .i64 len] 99)
   have hb2 := hb1.alloc hb1.size (.cells #[.int .i64 loc, .int .i64 len] 3)
   have hnew := reads_new (wr.alloc (.cells #[.int .i64 loc, .int .i64 len] 99)) [.int .i64 loc, .int .i64 len] 3 2 1 rfl
   rw [World.size_alloc] at hnew
   have hGL := HGL.out
   clear hown hb1
   go_wp2_with (at_builtin; refine wpList_append_any _ rfl (.tmp 26) (.tmp 31) 23 rfl w1.heap.size 3 i0 (.int .i64 0) 1 8 Tryz.underlying23 hi hz0 hz1 hz2 rfl (by decide) (.slice A5 (2 * j) c5) (2 * j) _ rfl hown0 _ (some ⟨wr.heap.size + 1, 0, none⟩) 2 2 [.int .i64 loc, .int .i64 len] rfl hnew (by simp [Value.oneCell']) (by unfold maxLen; omega) (by omega) hb2.size ?_; rintro v' w5 hO5 hg5 - -; obtain ⟨A6, c6, rfl⟩ := own_slice hO5)
   have hb3 := hb2.grown hg5 hb2.size (fun g hg => (hown0.lt g hg).1)
   have HO := Lib.hid hO5
   clear hO5 hown0 hg5 hnew hb2
   go_roundw
   case rel => exact ⟨j + 1, A6, c6, by omega, by go_num, rfl, by rw [HQ.out, List.map_append]; exact HO.out, hb3⟩
   case measure => simp [intOf]; omega
  ·have hjn : j = G.length := by omega
   have e : G.take j = G := List.take_of_length_le (by omega)
   rw [e] at hown
   subst hjn
   have HA : Hid (DeskPost w B D (cmdO (some S) .gaps []) (.returned (.tuple #[.slice A5 (2 * G.length) c5, .int .i64 0])) wr) := by
    show DeskPost _ _ _ _ _ _
    rw [HX.out]
    exact ⟨(grown_of_below HB.out _).trans (grown_of_below hb _), (HD.out.below HB.out).below hb, A5, 2 * G.length, c5, rfl, fun _ => Reads.of_own hown⟩
   clear e hown hr HX HD HB
   go_wp2
   go_ret2
   exact HA.out
def CmdIs (W : World) (base : Nat) (c : Cmd) (f : Value) : Prop := match c with
 | .new => f = .func (.func 81) #[] #[]
 | .gaps => f = .func (.func 83) #[] #[]
 | .live => f = .func (.func 84) #[] #[]
 | .roots => f = .func (.func 85) #[] #[]
 | .deed k _ v told => ∃ pk pv pt, f = .func (.func 99) #[] #[.pointer (some ⟨pk, 0, none⟩), .pointer (some ⟨pv, 0, none⟩), .pointer (some ⟨pt, 0, none⟩)] ∧ base ≤ pk ∧ base ≤ pv ∧ base ≤ pt ∧ Blk W pk 3 #[.int .i64 (k : Nat)] ∧ Blk W pv 3 #[.int .i64 v] ∧ Blk W pt 4 #[.bool told]
set_option maxHeartbeats 1000000 in
theorem deed_any (k m v : Int) (told : Bool) (w : World) :
  Calls Tryz.prog 82 #[.int .i64 k, .int .i64 m, .int .i64 v, .bool told] w fun e w' => Below w.heap.size w w' ∧ ∃ pk pv pt, e = .returned (.agg #[.int .i64 m, .bool true, .func (.func 99) #[] #[.pointer (some ⟨pk, 0, none⟩), .pointer (some ⟨pv, 0, none⟩), .pointer (some ⟨pt, 0, none⟩)]]) ∧
   w.heap.size ≤ pk ∧ w.heap.size ≤ pv ∧ w.heap.size ≤ pt ∧ Blk w' pk 3 #[.int .i64 k] ∧ Blk w' pv 3 #[.int .i64 v] ∧ Blk w' pt 4 #[.bool told] := by
 have b1 := below_new w (.cells #[.int .i64 k] 3)
 have b2 := b1.alloc b1.size (.cells #[.int .i64 v] 3)
 have b3 := b2.alloc b2.size (.cells #[.bool told] 4)
 have b4 := b3.alloc b3.size (.cells #[.int .i64 m, .bool true, .func (.func 99) #[] #[.pointer (some ⟨w.heap.size, 0, none⟩), .pointer (some ⟨w.heap.size + 1, 0, none⟩), .pointer (some ⟨w.heap.size + 1 + 1, 0, none⟩)]] 132)
 have DK := (((Blk.new w 3 #[.int .i64 k]).alloc (.cells #[.int .i64 v] 3)).alloc (.cells #[.bool told] 4)).alloc (.cells #[.int .i64 m, .bool true, .func (.func 99) #[] #[.pointer (some ⟨w.heap.size, 0, none⟩), .pointer (some ⟨w.heap.size + 1, 0, none⟩), .pointer (some ⟨w.heap.size + 1 + 1, 0, none⟩)]] 132)
 have DV := ((Blk.new (w.alloc (.cells #[.int .i64 k] 3)) 3 #[.int .i64 v]).alloc (.cells #[.bool told] 4)).alloc (.cells #[.int .i64 m, .bool true, .func (.func 99) #[] #[.pointer (some ⟨w.heap.size, 0, none⟩), .pointer (some ⟨w.heap.size + 1, 0, none⟩), .pointer (some ⟨w.heap.size + 1 + 1, 0, none⟩)]] 132)
 have DT := (Blk.new ((w.alloc (.cells #[.int .i64 k] 3)).alloc (.cells #[.int .i64 v] 3)) 4 #[.bool told]).alloc (.cells #[.int .i64 m, .bool true, .func (.func 99) #[] #[.pointer (some ⟨w.heap.size, 0, none⟩), .pointer (some ⟨w.heap.size + 1, 0, none⟩), .pointer (some ⟨w.heap.size + 1 + 1, 0, none⟩)]] 132)
 rw [World.size_alloc] at DV DT
 rw [World.size_alloc] at DT
 have HB := Lib.hid b4
 have HK := Lib.hid DK
 have HV := Lib.hid DV
 have HT := Lib.hid DT
 clear b1 b2 b3 b4 DK DV DT
 go_enter Tryz.func82, Tryz.ntmps82
 go_wp2
 refine bodyPost_ret (v := .agg #[.int .i64 m, .bool true, .func (.func 99) #[] #[.pointer (some ⟨w.heap.size, 0, none⟩), .pointer (some ⟨w.heap.size + 1, 0, none⟩), .pointer (some ⟨w.heap.size + 1 + 1, 0, none⟩)]]) ?_ rfl ⟨HB.out, _, _, _, rfl, Nat.le_refl _, Nat.le_succ _, Nat.le_succ_of_le (Nat.le_succ _), HK.out, HV.out, HT.out⟩
 simp only [results, Tryz.results82]
 go_simp
theorem findIn_no {x y : List UInt8} {c : Cmd} {l : List (List UInt8 × Cmd)} (h : (x == y) = false) : findIn x ((y, c) :: l) = findIn x l := by
 show (if (x == y) = true then some c else findIn x l) = _
 rw [if_neg (by rw [h]; decide)]
theorem findIn_yes {x y : List UInt8} {c : Cmd} {l : List (List UInt8 × Cmd)} (h : (x == y) = true) : findIn x ((y, c) :: l) = some c := by
 show (if (x == y) = true then some c else findIn x l) = _
 rw [if_pos h]
def FindPost (s : ByteArray) (w : World) (e : Ending) (w' : World) : Prop := Below w.heap.size w w' ∧ ((findC s = none ∧ e = .returned (.tuple #[.agg #[.int .i64 0, .bool false, .nilFunc], .bool false])) ∨
   ∃ c f, findC s = some c ∧ e = .returned (.tuple #[.agg #[.int .i64 c.many, .bool c.store, f], .bool true]) ∧ CmdIs w' w.heap.size c f)
theorem find_fin {w w1 : World} {s : ByteArray} {o : Obj} (k m : Nat) (v : Int) (told : Bool) {pk pv pt : Nat} (x0 x1 x2 : Value) (hb : Below (w.alloc o).heap.size (w.alloc o) w1) (hf : findC s = some (.deed k m v told))
  (h1 : (w.alloc o).heap.size ≤ pk) (h2 : (w.alloc o).heap.size ≤ pv) (h3 : (w.alloc o).heap.size ≤ pt) (B1 : Blk w1 pk 3 #[.int .i64 k]) (B2 : Blk w1 pv 3 #[.int .i64 v]) (B3 : Blk w1 pt 4 #[.bool told]) :
  FindPost s w (.returned (.tuple #[.agg #[.int .i64 m, .bool true, .func (.func 99) #[] #[.pointer (some ⟨pk, 0, none⟩), .pointer (some ⟨pv, 0, none⟩), .pointer (some ⟨pt, 0, none⟩)]], .bool true])) (((w1.setCell ⟨w.heap.size, 0, none⟩ x0).setCell ⟨w.heap.size, 1, none⟩ x1).setCell ⟨w.heap.size, 2, none⟩ x2) := by
 rw [World.size_alloc] at h1 h2 h3
 have hb0 := below_step (below_new w o) hb
 refine ⟨((hb0.setCell (p := ⟨w.heap.size, 0, none⟩) (Nat.le_refl _) _).setCell (p := ⟨w.heap.size, 1, none⟩) (Nat.le_refl _) _).setCell (p := ⟨w.heap.size, 2, none⟩) (Nat.le_refl _) _, .inr ⟨.deed k m v told, _, hf, rfl, pk, pv, pt, rfl, by omega, by omega, by omega, ((B1.far (p := ⟨w.heap.size, 0, none⟩) (by simp only; omega) _).far (p := ⟨w.heap.size, 1, none⟩) (by simp only; omega) _).far (p := ⟨w.heap.size, 2, none⟩) (by simp only; omega) _, ((B2.far (p := ⟨w.heap.size, 0, none⟩) (by simp only; omega) _).far (p := ⟨w.heap.size, 1, none⟩) (by simp only; omega) _).far (p := ⟨w.heap.size, 2, none⟩) (by simp only; omega) _, ((B3.far (p := ⟨w.heap.size, 0, none⟩) (by simp only; omega) _).far (p := ⟨w.heap.size, 1, none⟩) (by simp only; omega) _).far (p := ⟨w.heap.size, 2, none⟩) (by simp only; omega) _⟩⟩
set_option maxRecDepth 100000 in
set_option maxHeartbeats 4000000 in
theorem find_any (s : ByteArray) (w : World) : Calls Tryz.prog 62 #[.string s] w (FindPost s w) := by
 have HB := Lib.hid (fun cs => below_new w (.cells cs 132))
 have DZ := Blk.new w 132 #[.int .i64 0, .bool false, .nilFunc]
 have H := Lib.hid deed_any
 go_enter Tryz.func62, Tryz.ntmps62
 go_wp2_with (go_at_call 82; (with_reducible refine (H.out _ _ _ _ _).mono ?_); rintro e w1 ⟨hb1, pk, pv, pt, rfl, h1, h2, h3, B1, B2, B3⟩; have DZ1 := DZ.below hb1 DZ.lt; have c0 := DZ1.cell 0; have c1 := DZ1.cell 1; have c2 := DZ1.cell 2; have f0 := DZ1.frozen 0; have f1 := DZ1.frozen 1; have f2 := DZ1.frozen 2)
 ·refine bodyPost_ret (v := .tuple #[.agg #[.int .i64 3, .bool false, .func (.func 81) #[] #[]], .bool true]) ?_ rfl ⟨HB.out _, .inr ⟨.new, _, by unfold findC cmdsT; repeat (first | exact findIn_yes (by assumption) | refine (findIn_no (by assumption)).trans ?_), rfl, rfl⟩⟩
  simp only [results, Tryz.results62]
  go_simp
 ·refine bodyPost_ret (v := .tuple #[.agg #[.int .i64 4, .bool true, .func (.func 99) #[] #[.pointer (some ⟨pk, 0, none⟩), .pointer (some ⟨pv, 0, none⟩), .pointer (some ⟨pt, 0, none⟩)]], .bool true]) ?_ rfl (find_fin 1 4 (3) true _ _ _ hb1 (by unfold findC cmdsT; repeat (first | exact findIn_yes (by assumption) | refine (findIn_no (by assumption)).trans ?_)) h1 h2 h3 B1 B2 B3)
  have z := ((DZ1.set_ 0 (.int .i64 4)).set_ 1 (.bool true)).set_ 2 (.func (.func 99) #[] #[.pointer (some ⟨pk, 0, none⟩), .pointer (some ⟨pv, 0, none⟩), .pointer (some ⟨pt, 0, none⟩)])
  have z0 := z.cell 0
  have z1 := z.cell 1
  have z2 := z.cell 2
  clear z DZ1 c0 c1 c2 f0 f1 f2
  simp only [results, Tryz.results62]
  go_simp
 ·refine bodyPost_ret (v := .tuple #[.agg #[.int .i64 0, .bool true, .func (.func 99) #[] #[.pointer (some ⟨pk, 0, none⟩), .pointer (some ⟨pv, 0, none⟩), .pointer (some ⟨pt, 0, none⟩)]], .bool true]) ?_ rfl (find_fin 2 0 (-1) true _ _ _ hb1 (by unfold findC cmdsT; repeat (first | exact findIn_yes (by assumption) | refine (findIn_no (by assumption)).trans ?_)) h1 h2 h3 B1 B2 B3)
  have z := ((DZ1.set_ 0 (.int .i64 0)).set_ 1 (.bool true)).set_ 2 (.func (.func 99) #[] #[.pointer (some ⟨pk, 0, none⟩), .pointer (some ⟨pv, 0, none⟩), .pointer (some ⟨pt, 0, none⟩)])
  have z0 := z.cell 0
  have z1 := z.cell 1
  have z2 := z.cell 2
  clear z DZ1 c0 c1 c2 f0 f1 f2
  simp only [results, Tryz.results62]
  go_simp
 ·refine bodyPost_ret (v := .tuple #[.agg #[.int .i64 3, .bool true, .func (.func 99) #[] #[.pointer (some ⟨pk, 0, none⟩), .pointer (some ⟨pv, 0, none⟩), .pointer (some ⟨pt, 0, none⟩)]], .bool true]) ?_ rfl (find_fin 3 3 (-1) false _ _ _ hb1 (by unfold findC cmdsT; repeat (first | exact findIn_yes (by assumption) | refine (findIn_no (by assumption)).trans ?_)) h1 h2 h3 B1 B2 B3)
  have z := ((DZ1.set_ 0 (.int .i64 3)).set_ 1 (.bool true)).set_ 2 (.func (.func 99) #[] #[.pointer (some ⟨pk, 0, none⟩), .pointer (some ⟨pv, 0, none⟩), .pointer (some ⟨pt, 0, none⟩)])
  have z0 := z.cell 0
  have z1 := z.cell 1
  have z2 := z.cell 2
  clear z DZ1 c0 c1 c2 f0 f1 f2
  simp only [results, Tryz.results62]
  go_simp
 ·refine bodyPost_ret (v := .tuple #[.agg #[.int .i64 3, .bool true, .func (.func 99) #[] #[.pointer (some ⟨pk, 0, none⟩), .pointer (some ⟨pv, 0, none⟩), .pointer (some ⟨pt, 0, none⟩)]], .bool true]) ?_ rfl (find_fin 4 3 (-1) false _ _ _ hb1 (by unfold findC cmdsT; repeat (first | exact findIn_yes (by assumption) | refine (findIn_no (by assumption)).trans ?_)) h1 h2 h3 B1 B2 B3)
  have z := ((DZ1.set_ 0 (.int .i64 3)).set_ 1 (.bool true)).set_ 2 (.func (.func 99) #[] #[.pointer (some ⟨pk, 0, none⟩), .pointer (some ⟨pv, 0, none⟩), .pointer (some ⟨pt, 0, none⟩)])
  have z0 := z.cell 0
  have z1 := z.cell 1
  have z2 := z.cell 2
  clear z DZ1 c0 c1 c2 f0 f1 f2
  simp only [results, Tryz.results62]
  go_simp
 ·refine bodyPost_ret (v := .tuple #[.agg #[.int .i64 2, .bool true, .func (.func 99) #[] #[.pointer (some ⟨pk, 0, none⟩), .pointer (some ⟨pv, 0, none⟩), .pointer (some ⟨pt, 0, none⟩)]], .bool true]) ?_ rfl (find_fin 5 2 (-1) true _ _ _ hb1 (by unfold findC cmdsT; repeat (first | exact findIn_yes (by assumption) | refine (findIn_no (by assumption)).trans ?_)) h1 h2 h3 B1 B2 B3)
  have z := ((DZ1.set_ 0 (.int .i64 2)).set_ 1 (.bool true)).set_ 2 (.func (.func 99) #[] #[.pointer (some ⟨pk, 0, none⟩), .pointer (some ⟨pv, 0, none⟩), .pointer (some ⟨pt, 0, none⟩)])
  have z0 := z.cell 0
  have z1 := z.cell 1
  have z2 := z.cell 2
  clear z DZ1 c0 c1 c2 f0 f1 f2
  simp only [results, Tryz.results62]
  go_simp
 ·refine bodyPost_ret (v := .tuple #[.agg #[.int .i64 3, .bool true, .func (.func 99) #[] #[.pointer (some ⟨pk, 0, none⟩), .pointer (some ⟨pv, 0, none⟩), .pointer (some ⟨pt, 0, none⟩)]], .bool true]) ?_ rfl (find_fin 6 3 (2) false _ _ _ hb1 (by unfold findC cmdsT; repeat (first | exact findIn_yes (by assumption) | refine (findIn_no (by assumption)).trans ?_)) h1 h2 h3 B1 B2 B3)
  have z := ((DZ1.set_ 0 (.int .i64 3)).set_ 1 (.bool true)).set_ 2 (.func (.func 99) #[] #[.pointer (some ⟨pk, 0, none⟩), .pointer (some ⟨pv, 0, none⟩), .pointer (some ⟨pt, 0, none⟩)])
  have z0 := z.cell 0
  have z1 := z.cell 1
  have z2 := z.cell 2
  clear z DZ1 c0 c1 c2 f0 f1 f2
  simp only [results, Tryz.results62]
  go_simp
 ·refine bodyPost_ret (v := .tuple #[.agg #[.int .i64 1, .bool true, .func (.func 99) #[] #[.pointer (some ⟨pk, 0, none⟩), .pointer (some ⟨pv, 0, none⟩), .pointer (some ⟨pt, 0, none⟩)]], .bool true]) ?_ rfl (find_fin 7 1 (-1) true _ _ _ hb1 (by unfold findC cmdsT; repeat (first | exact findIn_yes (by assumption) | refine (findIn_no (by assumption)).trans ?_)) h1 h2 h3 B1 B2 B3)
  have z := ((DZ1.set_ 0 (.int .i64 1)).set_ 1 (.bool true)).set_ 2 (.func (.func 99) #[] #[.pointer (some ⟨pk, 0, none⟩), .pointer (some ⟨pv, 0, none⟩), .pointer (some ⟨pt, 0, none⟩)])
  have z0 := z.cell 0
  have z1 := z.cell 1
  have z2 := z.cell 2
  clear z DZ1 c0 c1 c2 f0 f1 f2
  simp only [results, Tryz.results62]
  go_simp
 ·refine bodyPost_ret (v := .tuple #[.agg #[.int .i64 1, .bool true, .func (.func 99) #[] #[.pointer (some ⟨pk, 0, none⟩), .pointer (some ⟨pv, 0, none⟩), .pointer (some ⟨pt, 0, none⟩)]], .bool true]) ?_ rfl (find_fin 8 1 (-1) false _ _ _ hb1 (by unfold findC cmdsT; repeat (first | exact findIn_yes (by assumption) | refine (findIn_no (by assumption)).trans ?_)) h1 h2 h3 B1 B2 B3)
  have z := ((DZ1.set_ 0 (.int .i64 1)).set_ 1 (.bool true)).set_ 2 (.func (.func 99) #[] #[.pointer (some ⟨pk, 0, none⟩), .pointer (some ⟨pv, 0, none⟩), .pointer (some ⟨pt, 0, none⟩)])
  have z0 := z.cell 0
  have z1 := z.cell 1
  have z2 := z.cell 2
  clear z DZ1 c0 c1 c2 f0 f1 f2
  simp only [results, Tryz.results62]
  go_simp
 ·refine bodyPost_ret (v := .tuple #[.agg #[.int .i64 2, .bool true, .func (.func 99) #[] #[.pointer (some ⟨pk, 0, none⟩), .pointer (some ⟨pv, 0, none⟩), .pointer (some ⟨pt, 0, none⟩)]], .bool true]) ?_ rfl (find_fin 9 2 (-1) true _ _ _ hb1 (by unfold findC cmdsT; repeat (first | exact findIn_yes (by assumption) | refine (findIn_no (by assumption)).trans ?_)) h1 h2 h3 B1 B2 B3)
  have z := ((DZ1.set_ 0 (.int .i64 2)).set_ 1 (.bool true)).set_ 2 (.func (.func 99) #[] #[.pointer (some ⟨pk, 0, none⟩), .pointer (some ⟨pv, 0, none⟩), .pointer (some ⟨pt, 0, none⟩)])
  have z0 := z.cell 0
  have z1 := z.cell 1
  have z2 := z.cell 2
  clear z DZ1 c0 c1 c2 f0 f1 f2
  simp only [results, Tryz.results62]
  go_simp
 ·refine bodyPost_ret (v := .tuple #[.agg #[.int .i64 1, .bool true, .func (.func 99) #[] #[.pointer (some ⟨pk, 0, none⟩), .pointer (some ⟨pv, 0, none⟩), .pointer (some ⟨pt, 0, none⟩)]], .bool true]) ?_ rfl (find_fin 10 1 (-1) true _ _ _ hb1 (by unfold findC cmdsT; repeat (first | exact findIn_yes (by assumption) | refine (findIn_no (by assumption)).trans ?_)) h1 h2 h3 B1 B2 B3)
  have z := ((DZ1.set_ 0 (.int .i64 1)).set_ 1 (.bool true)).set_ 2 (.func (.func 99) #[] #[.pointer (some ⟨pk, 0, none⟩), .pointer (some ⟨pv, 0, none⟩), .pointer (some ⟨pt, 0, none⟩)])
  have z0 := z.cell 0
  have z1 := z.cell 1
  have z2 := z.cell 2
  clear z DZ1 c0 c1 c2 f0 f1 f2
  simp only [results, Tryz.results62]
  go_simp
 ·refine bodyPost_ret (v := .tuple #[.agg #[.int .i64 2, .bool true, .func (.func 99) #[] #[.pointer (some ⟨pk, 0, none⟩), .pointer (some ⟨pv, 0, none⟩), .pointer (some ⟨pt, 0, none⟩)]], .bool true]) ?_ rfl (find_fin 11 2 (1) false _ _ _ hb1 (by unfold findC cmdsT; repeat (first | exact findIn_yes (by assumption) | refine (findIn_no (by assumption)).trans ?_)) h1 h2 h3 B1 B2 B3)
  have z := ((DZ1.set_ 0 (.int .i64 2)).set_ 1 (.bool true)).set_ 2 (.func (.func 99) #[] #[.pointer (some ⟨pk, 0, none⟩), .pointer (some ⟨pv, 0, none⟩), .pointer (some ⟨pt, 0, none⟩)])
  have z0 := z.cell 0
  have z1 := z.cell 1
  have z2 := z.cell 2
  clear z DZ1 c0 c1 c2 f0 f1 f2
  simp only [results, Tryz.results62]
  go_simp
 ·refine bodyPost_ret (v := .tuple #[.agg #[.int .i64 1, .bool true, .func (.func 99) #[] #[.pointer (some ⟨pk, 0, none⟩), .pointer (some ⟨pv, 0, none⟩), .pointer (some ⟨pt, 0, none⟩)]], .bool true]) ?_ rfl (find_fin 12 1 (0) false _ _ _ hb1 (by unfold findC cmdsT; repeat (first | exact findIn_yes (by assumption) | refine (findIn_no (by assumption)).trans ?_)) h1 h2 h3 B1 B2 B3)
  have z := ((DZ1.set_ 0 (.int .i64 1)).set_ 1 (.bool true)).set_ 2 (.func (.func 99) #[] #[.pointer (some ⟨pk, 0, none⟩), .pointer (some ⟨pv, 0, none⟩), .pointer (some ⟨pt, 0, none⟩)])
  have z0 := z.cell 0
  have z1 := z.cell 1
  have z2 := z.cell 2
  clear z DZ1 c0 c1 c2 f0 f1 f2
  simp only [results, Tryz.results62]
  go_simp
 ·refine bodyPost_ret (v := .tuple #[.agg #[.int .i64 1, .bool true, .func (.func 99) #[] #[.pointer (some ⟨pk, 0, none⟩), .pointer (some ⟨pv, 0, none⟩), .pointer (some ⟨pt, 0, none⟩)]], .bool true]) ?_ rfl (find_fin 13 1 (-1) false _ _ _ hb1 (by unfold findC cmdsT; repeat (first | exact findIn_yes (by assumption) | refine (findIn_no (by assumption)).trans ?_)) h1 h2 h3 B1 B2 B3)
  have z := ((DZ1.set_ 0 (.int .i64 1)).set_ 1 (.bool true)).set_ 2 (.func (.func 99) #[] #[.pointer (some ⟨pk, 0, none⟩), .pointer (some ⟨pv, 0, none⟩), .pointer (some ⟨pt, 0, none⟩)])
  have z0 := z.cell 0
  have z1 := z.cell 1
  have z2 := z.cell 2
  clear z DZ1 c0 c1 c2 f0 f1 f2
  simp only [results, Tryz.results62]
  go_simp
 ·refine bodyPost_ret (v := .tuple #[.agg #[.int .i64 0, .bool true, .func (.func 83) #[] #[]], .bool true]) ?_ rfl ⟨HB.out _, .inr ⟨.gaps, _, by unfold findC cmdsT; repeat (first | exact findIn_yes (by assumption) | refine (findIn_no (by assumption)).trans ?_), rfl, rfl⟩⟩
  simp only [results, Tryz.results62]
  go_simp
 ·refine bodyPost_ret (v := .tuple #[.agg #[.int .i64 0, .bool true, .func (.func 84) #[] #[]], .bool true]) ?_ rfl ⟨HB.out _, .inr ⟨.live, _, by unfold findC cmdsT; repeat (first | exact findIn_yes (by assumption) | refine (findIn_no (by assumption)).trans ?_), rfl, rfl⟩⟩
  simp only [results, Tryz.results62]
  go_simp
 ·refine bodyPost_ret (v := .tuple #[.agg #[.int .i64 0, .bool true, .func (.func 85) #[] #[]], .bool true]) ?_ rfl ⟨HB.out _, .inr ⟨.roots, _, by unfold findC cmdsT; repeat (first | exact findIn_yes (by assumption) | refine (findIn_no (by assumption)).trans ?_), rfl, rfl⟩⟩
  simp only [results, Tryz.results62]
  go_simp
 ·refine bodyPost_ret (v := .tuple #[.agg #[.int .i64 0, .bool false, .nilFunc], .bool false]) ?_ rfl ⟨HB.out _, .inl ⟨by unfold findC cmdsT; repeat (first | rfl | exact findIn_yes (by assumption) | refine (findIn_no (by assumption)).trans ?_), rfl⟩⟩
  simp only [results, Tryz.results62]
  go_simp
def opV5 (o : OpV) : Array Value := #[.int .i64 o.kind, .int .i64 o.a, .int .i64 o.b, .int .i64 o.c, .int .u64 o.v]
theorem cntV_next {v : Int} {j : Nat} (h : (j : Int) ≠ v) : cntV v (j + 1) = cntV v j + 1 := if_neg h
theorem cntV_same {v : Int} {j : Nat} (h : (j : Int) = v) : cntV v (j + 1) = cntV v j := if_pos h
theorem fillV_next {kind v x : Int} {n : List Int} {j : Nat} (h : (j : Int) ≠ v) (hx : n[j]? = some x) : fillV kind v n (j + 1) = (fillV kind v n j).put (cntV v j) x := by
 show (if (j : Int) = v then _ else _) = _
 rw [if_neg h, List.getD_eq_getElem?_getD, hx]
 rfl
theorem fillV_same {kind v x : Int} {n : List Int} {j : Nat} (h : (j : Int) = v) (hx : n[j]? = some x) : fillV kind v n (j + 1) = { fillV kind v n j with v := x } := by
 show (if (j : Int) = v then _ else _) = _
 rw [if_pos h, List.getD_eq_getElem?_getD, hx]
 rfl
theorem opV5_put (o : OpV) (k : Nat) (x : Int) (hk : k < 3) : (opV5 o).setIfInBounds (1 + k) (.int .i64 x) = opV5 (o.put k x) := by
 have h : k = 0 ∨ k = 1 ∨ k = 2 := by omega
 rcases h with rfl | rfl | rfl <;> rfl
theorem opV5_v (o : OpV) (x : Int) : (opV5 o).setIfInBounds 4 (.int .u64 x) = opV5 { o with v := x } := rfl
theorem negV_of {n : List Int} {j : Nat} {x : Int} (hj : j < n.length) (hx : n[j]? = some x) (h : x < 0) : negV (j : Int) n = true := by
 unfold negV
 rw [decide_eq_true (Int.natCast_nonneg j), decide_eq_true (show (j : Int) < n.length by omega), Int.toNat_natCast, List.getD_eq_getElem?_getD, hx]
 exact decide_eq_true h
theorem negV_no {n : List Int} {v : Int} (h : 0 ≤ v → v < n.length → 0 ≤ n.getD v.toNat 0) : negV v n = false := by
 unfold negV
 by_cases h1 : 0 ≤ v
 ·by_cases h2 : v < n.length
  ·rw [show decide (n.getD v.toNat 0 < 0) = false from decide_eq_false (by have := h h1 h2; omega), Bool.and_false]
  ·rw [decide_eq_false h2, Bool.and_false, Bool.false_and]
 ·rw [decide_eq_false h1, Bool.false_and, Bool.false_and]
theorem OpV.put_v (o : OpV) (k : Nat) (x : Int) : (o.put k x).v = o.v := by
 unfold OpV.put
 split
 ·rfl
 ·split <;> rfl
theorem fillV_v (kind v : Int) (n : List Int) : ∀ j, (fillV kind v n j).v = if 0 ≤ v ∧ v < j then n.getD v.toNat 0 else 0
 | 0 => by
   rw [if_neg (by omega)]
   rfl
 | j + 1 => by
   have ih := fillV_v kind v n j
   by_cases h : (j : Int) = v
   ·show (if (j : Int) = v then ({ fillV kind v n j with v := n.getD j 0 } : OpV) else _).v = _
    rw [if_pos h, if_pos (by omega), ← h, Int.toNat_natCast]
   ·show (if (j : Int) = v then _ else (fillV kind v n j).put (cntV v j) (n.getD j 0)).v = _
    rw [if_neg h, OpV.put_v, ih]
    by_cases h1 : 0 ≤ v ∧ v < j
    ·rw [if_pos h1, if_pos (by omega)]
    ·rw [if_neg h1, if_neg (by omega)]
theorem do_one {w w' : World} {X : Out} {e : Ending} (h : DoPost w X e w') : Below w.heap.size w w' ∧ ∃ (B1 : Option Addr) (n1 d1 : Nat) (B2 : Option Addr) (n2 d2 : Nat) (B3 : Option Addr) (n3 d3 : Nat) (B4 : Option Addr) (n4 d4 : Nat) (told : Int),
  e = .returned (.tuple #[.agg #[.slice B1 n1 d1, .slice B2 n2 d2, .slice B3 n3 d3, .slice B4 n4 d4], .int .u64 told, .int .i64 X.er]) ∧ Hid (X.er = 0 → told = X.told ∧ StO w' w.heap.size B1 n1 d1 B2 n2 d2 B3 n3 d3 B4 n4 d4 X.st) := by
 obtain ⟨hb, ⟨h0, B1, n1, d1, B2, n2, d2, B3, n3, d3, B4, n4, d4, rfl, hO⟩ | ⟨h0, rfl⟩⟩ := h
 ·exact ⟨hb, B1, n1, d1, B2, n2, d2, B3, n3, d3, B4, n4, d4, X.told, by rw [h0], fun _ => ⟨rfl, hO⟩⟩
 ·exact ⟨hb, none, 0, 0, none, 0, 0, none, 0, 0, none, 0, 0, 0, rfl, fun h => absurd h h0⟩
theorem u64_nat {X : Nat} (h : X < 18446744073709551616) : IntKind.u64.wrap (X : Int) = X := by
 show ((X : Int) % 18446744073709551616) = _
 exact Int.emod_eq_of_lt (by omega) (by omega)
set_option maxRecDepth 100000 in
set_option maxHeartbeats 2000000 in
theorem deedC_any (B D pk pv pt kind many : Nat) (v : Int) (told : Bool) (n : List Int) (NA : Option Addr) (nn nc : Nat) (S : St) (w : World)
  (hD : DeskAt w B D (some S)) (hB : B ≤ w.heap.size) (hT : DTab B w)
  (hk : Blk w pk 3 #[.int .i64 kind]) (hv : Blk w pv 3 #[.int .i64 v]) (ht : Blk w pt 4 #[.bool told])
  (hr : Reads w w.heap.size 1 NA nn (n.map (.int .i64))) (hl : nn ≤ 4) (hc : ∀ j : Nat, j < nn → (j : Int) ≠ v → cntV v j < 3) (hw : ∀ x ∈ n, (Lit.int .i64 x).wf = true) :
  Calls Tryz.prog 99 #[.pointer (some ⟨D, 0, none⟩), .slice NA nn nc, .pointer (some ⟨pk, 0, none⟩), .pointer (some ⟨pv, 0, none⟩), .pointer (some ⟨pt, 0, none⟩)] w (DeskPost w B D (cmdO (some S) (.deed kind many v told) n)) := by
 have hll : n.length = nn := by have := hr.1; simpa using this
 have HL := Lib.hid hll
 have HC := Lib.hid hc
 have HW := Lib.hid hw
 have HD := Lib.hid hD
 have hk0 := hk.cell 0
 have ht0 := ht.cell 0
 simp only [List.getElem?_toArray, List.getElem?_cons_zero] at hk0 ht0
 have hb0 := (below_new w (.cells #[.int .i64 kind, .int .i64 0, .int .i64 0, .int .i64 0, .int .u64 0] 170)).alloc (below_new w (.cells #[.int .i64 kind, .int .i64 0, .int .i64 0, .int .i64 0, .int .u64 0] 170)).size (.cells #[.pointer (some ⟨w.heap.size, 1, none⟩), .pointer (some ⟨w.heap.size, 2, none⟩), .pointer (some ⟨w.heap.size, 3, none⟩)] 162)
 have DO := (Blk.new w 170 #[.int .i64 kind, .int .i64 0, .int .i64 0, .int .i64 0, .int .u64 0]).alloc (.cells #[.pointer (some ⟨w.heap.size, 1, none⟩), .pointer (some ⟨w.heap.size, 2, none⟩), .pointer (some ⟨w.heap.size, 3, none⟩)] 162)
 have DR := Blk.new (w.alloc (.cells #[.int .i64 kind, .int .i64 0, .int .i64 0, .int .i64 0, .int .u64 0] 170)) 162 #[.pointer (some ⟨w.heap.size, 1, none⟩), .pointer (some ⟨w.heap.size, 2, none⟩), .pointer (some ⟨w.heap.size, 3, none⟩)]
 rw [World.size_alloc] at DR
 clear hll hc hw hD
 go_enter Tryz.func99, Tryz.ntmps99
 go_wp2_with fail
 go_loopw [10, 11, 12, 24] (fun r _ _ i wr => ∃ j k : Nat, j ≤ nn ∧ Hid (k = cntV v j) ∧ k ≤ 3 ∧ i = .int .i64 j ∧ r = .slice (some ⟨w.heap.size + 1, min k 2, none⟩) (3 - k) (3 - k) ∧ Below w.heap.size w wr ∧ Blk wr w.heap.size 170 (opV5 (fillV kind v n j)) ∧ Blk wr (w.heap.size + 1) 162 #[.pointer (some ⟨w.heap.size, 1, none⟩), .pointer (some ⟨w.heap.size, 2, none⟩), .pointer (some ⟨w.heap.size, 3, none⟩)] ∧ Hid (0 ≤ v → v < j → 0 ≤ n.getD v.toNat 0)) (fun _ _ _ i _ => nn - (intOf i).toNat)
 case atStart => exact ⟨0, 0, Nat.zero_le _, rfl, by omega, rfl, rfl, hb0, DO, DR, fun h1 h2 => by omega⟩
 case round =>
  obtain ⟨j, k, hj, HK, hk3, rfl, rfl, hb, DO, DR, HN⟩ := hrel
  by_cases hlt : j < nn
  ·obtain ⟨ad, x, rfl, had, hs, c0⟩ := (hr.below hb).num hlt
   have HS := Lib.hid hs
   have hv0 := (hv.below hb hv.lt).cell 0
   simp only [List.getElem?_toArray, List.getElem?_cons_zero] at hv0
   clear hs
   by_cases hjv : (j : Int) = v
   ·subst hjv
    have gv : ((j : Int) != (j : Int)) = false := by simp
    have hxw := HW.out x (List.mem_of_getElem? HS.out)
    by_cases hx0 : x < 0
    ·have gx : decide (x < 0) = true := decide_eq_true hx0
     have hX : cmdO (some S) (.deed kind many j told) n = ⟨some S, [], 4⟩ := if_pos (negV_of (by rw [HL.out]; exact hlt) HS.out hx0)
     have HXX := Lib.hid hX
     have hDk := HD.out.below hb
     have hgr := grown_of_below hb (some D)
     clear hX HD DO DR hx0 hxw HN HK
     go_wp2_with fail
     go_ret2
     rw [HXX.out]
     exact ⟨hgr, hDk, none, 0, 0, rfl, fun _ => Reads.none_⟩
    ·obtain ⟨X, rfl⟩ := Int.eq_ofNat_of_zero_le (show 0 ≤ x by omega)
     have gx : decide ((X : Int) < 0) = false := decide_eq_false hx0
     have hX64 : IntKind.u64.wrap (X : Int) = X := u64_nat (by simp [Lit.wf, IntKind.min, IntKind.max, IntKind.signed, IntKind.bits] at hxw; omega)
     have HF := Lib.hid (fillV_same (kind := kind) (rfl : (j : Int) = (j : Int)) HS.out)
     have HK2 : Hid (k = cntV (j : Int) (j + 1)) := by
      show _ = _
      rw [cntV_same rfl, ← HK.out]
     have HN2 : Hid (0 ≤ (j : Int) → (j : Int) < (j + 1 : Nat) → 0 ≤ n.getD (j : Int).toNat 0) := fun h1 h2 => by
      rw [List.getD_eq_getElem?_getD, Int.toNat_natCast, HS.out]
      exact Int.natCast_nonneg X
     have hbz := hb.setCell (p := ⟨w.heap.size, 4, none⟩) (Nat.le_refl _) (.int .u64 X)
     have hDz := DO.set_ 4 (.int .u64 X)
     rw [opV5_v, ← HF.out] at hDz
     have hRz := DR.far (p := ⟨w.heap.size, 4, none⟩) (by simp) (.int .u64 X)
     have fz4 := DO.frozen 4
     obtain ⟨u4, q4⟩ : ∃ u, wr.cell? ⟨w.heap.size, 4, none⟩ = some u := ⟨_, DO.cell 4⟩
     clear hx0 hxw HN HK HF DO DR
     go_wp2_with fail
     go_roundw
     case rel => exact ⟨j + 1, k, hlt, HK2, hk3, by go_num, rfl, hbz, hDz, hRz, HN2⟩
     case measure => simp [intOf]; omega
   ·have gv : ((j : Int) != v) = true := by simpa using hjv
    have hkc := HC.out j hlt hjv
    rw [← HK.out] at hkc
    have HF := Lib.hid (fillV_next (kind := kind) hjv HS.out)
    rw [← HK.out] at HF
    have HK2 : Hid (k + 1 = cntV v (j + 1)) := by
     show _ = _
     rw [cntV_next hjv, ← HK.out]
    have HN2 : Hid (0 ≤ v → v < (j + 1 : Nat) → 0 ≤ n.getD v.toNat 0) := fun h1 h2 => HN.out h1 (by omega)
    have hp0 := DR.cell 0
    have hp1 := DR.cell 1
    have hp2 := DR.cell 2
    have hbz := fun i => hb.setCell (p := ⟨w.heap.size, i, none⟩) (Nat.le_refl _) (.int .i64 x)
    have hDz := DO.set_ (1 + k) (.int .i64 x)
    rw [opV5_put _ _ _ hkc, ← HF.out] at hDz
    have hRz := fun i => DR.far (p := ⟨w.heap.size, i, none⟩) (by simp) (.int .i64 x)
    have fz := fun i => DO.frozen i
    have q1 : ∃ u, wr.cell? ⟨w.heap.size, 1, none⟩ = some u := ⟨_, DO.cell 1⟩
    have q2 : ∃ u, wr.cell? ⟨w.heap.size, 2, none⟩ = some u := ⟨_, DO.cell 2⟩
    have q3 : ∃ u, wr.cell? ⟨w.heap.size, 3, none⟩ = some u := ⟨_, DO.cell 3⟩
    obtain ⟨u1, q1⟩ := q1
    obtain ⟨u2, q2⟩ := q2
    obtain ⟨u3, q3⟩ := q3
    have fz1 := fz 1
    have fz2 := fz 2
    have fz3 := fz 3
    simp only [List.getElem?_toArray, List.getElem?_cons_zero, List.getElem?_cons_succ] at hp0 hp1 hp2
    have h3 : k = 0 ∨ k = 1 ∨ k = 2 := by omega
    clear hjv HF HN DO fz
    rcases h3 with rfl | rfl | rfl
    ·have hbz := hbz 1
     have hRz := hRz 1
     go_wp2_with fail
     go_roundw
     case rel => exact ⟨j + 1, 1, hlt, HK2, by omega, by go_num, rfl, hbz, hDz, hRz, HN2⟩
     case measure => simp [intOf]; omega
    ·have hbz := hbz 2
     have hRz := hRz 2
     go_wp2_with fail
     go_roundw
     case rel => exact ⟨j + 1, 2, hlt, HK2, by omega, by go_num, rfl, hbz, hDz, hRz, HN2⟩
     case measure => simp [intOf]; omega
    ·have hbz := hbz 3
     have hRz := hRz 3
     go_wp2_with fail
     go_roundw
     case rel => exact ⟨j + 1, 3, hlt, HK2, by omega, by go_num, rfl, hbz, hDz, hRz, HN2⟩
     case measure => simp [intOf]; omega
  ·have g0 : decide (j < nn) = false := decide_eq_false hlt
   obtain rfl : j = nn := by omega
   have hneg : negV v n = false := negV_no (by rw [HL.out]; exact HN.out)
   have HO : Hid (fillV kind v n j = deedV kind v n) := by show _ = _; unfold deedV; rw [HL.out]
   rw [HO.out] at DO
   have HX : Hid (cmdO (some S) (.deed kind many v told) n = if (doO S (deedV kind v n)).er ≠ 0 then ⟨some S, [], (doO S (deedV kind v n)).er⟩ else ⟨some (doO S (deedV kind v n)).st, if told = true then [IntKind.i64.wrap (doO S (deedV kind v n)).told] else [], 0⟩) := by
    show (if negV v n = true then _ else _) = _
    rw [hneg]
    rfl
   obtain ⟨hBD, hG, A1, n1, d1, A2, n2, d2, A3, n3, d3, A4, n4, d4, hDB, hDO⟩ := HD.out.below hb
   have hv01 : 0 ≤ (deedV kind v n).v ∧ (deedV kind v n).v < 18446744073709551616 := by
    unfold deedV
    rw [fillV_v]
    split
    ·rename_i h1
     refine ⟨HN.out h1.1 (by rw [← HL.out]; exact h1.2), ?_⟩
     have hlt : v.toNat < n.length := by omega
     have := HW.out (n.getD v.toNat 0) (by rw [List.getD_eq_getElem?_getD, List.getElem?_eq_getElem hlt]; exact List.getElem_mem hlt)
     simp [Lit.wf, IntKind.min, IntKind.max, IntKind.signed, IntKind.bits] at this
     simp
     omega
    ·decide
   have HDo := Lib.hid (fun W hR hT => Calls.mono (do_any A1 n1 d1 A2 n2 d2 A3 n3 d3 A4 n4 d4 S (deedV kind v n) W hR (hDO.known hG.wf) hT hv01.1 hv01.2) fun e w' h => do_one h)
   obtain ⟨e0, e1, e2, e3, e4⟩ := hDB.six
   have hne : w.heap.size ≠ D := by have h := (HD.out : DeskAt w B D (some S)); obtain ⟨-, -, _, _, _, _, _, _, _, _, _, _, _, _, h, -⟩ := h; have := h.lt; omega
   have HBW := Lib.hid (Nat.le_trans hB hb.size)
   have HT := Lib.hid (hT.on (hb.mono hB))
   have HGd := Lib.hid hG
   have hRd := hDO.reads
   obtain ⟨o, ho⟩ : ∃ o, o = deedV kind v n := ⟨_, rfl⟩
   have HoE := Lib.hid ho
   rw [← ho] at DO HDo
   have HNX : Hid ((doO S o).er = 0 → StGood (doO S o).st) := fun h => doO_good hG o (by rw [ho]; simp [Lit.wf, IntKind.min, IntKind.max, IntKind.signed, IntKind.bits]; omega) h
   obtain ⟨X, hX⟩ : ∃ X, X = doO S o := ⟨_, rfl⟩
   rw [← hX] at HDo HNX
   have HXE := Lib.hid hX
   have ht1 := (ht.below hb ht.lt).cell 0
   simp only [List.getElem?_toArray, List.getElem?_cons_zero] at ht1
   have HTt := Lib.hid (ht.below hb ht.lt)
   obtain ⟨o0, o1, o2, o3, o4⟩ := Blk.five (a := .int .i64 o.kind) (b := .int .i64 o.a) (c := .int .i64 o.b) (d := .int .i64 o.c) (e := .int .u64 o.v) DO
   clear HN HO HL HC HW hT ho hX hv01 hneg HK hk0 ht0 hk hv ht
   go_upto_region 13 with fail
   go_cut [13, 14, 15] from 16 to 66 (fun s13 s14 s15 wc => ∃ (g : Nat) (B1 : Option Addr) (m1 f1 : Nat) (B2 : Option Addr) (m2 f2 : Nat) (B3 : Option Addr) (m3 f3 : Nat) (B4 : Option Addr) (m4 f4 : Nat) (tl : Int), s13 = .pointer (some ⟨g, 0, none⟩) ∧ s14 = .int .u64 tl ∧ s15 = .int .i64 X.er ∧ wr.heap.size ≤ g ∧ Blk wc g 113 #[.slice B1 m1 f1, .slice B2 m2 f2, .slice B3 m3 f3, .slice B4 m4 f4] ∧
    Hid (X.er = 0 → tl = X.told ∧ StO wc wr.heap.size B1 m1 f1 B2 m2 f2 B3 m3 f3 B4 m4 f4 X.st) ∧ Below wr.heap.size wr wc)
   case first =>
    obtain ⟨V, hV⟩ : ∃ V, V = wr := ⟨_, rfl⟩
    subst hV
    have hbd := (Below.refl V.heap.size V).drew
    have hDBd := hDB.drew
    have hDOd := DO.drew
    obtain ⟨h0, h1, h2, h3, h4⟩ := hDBd.six
    obtain ⟨p0, p1, p2, p3, p4⟩ := Blk.five (a := .int .i64 o.kind) (b := .int .i64 o.a) (c := .int .i64 o.b) (d := .int .i64 o.c) (e := .int .u64 o.v) hDOd
    have hbz := (below_new V (.cells #[.slice none 0 0, .slice none 0 0, .slice none 0 0, .slice none 0 0] 113)).drew
    have hNz := (Blk.new V 113 #[.slice none 0 0, .slice none 0 0, .slice none 0 0, .slice none 0 0]).drew
    have ne1 : V.heap.size ≠ D := by have h := hDB.lt; omega
    have ne2 : V.heap.size ≠ w.heap.size := by have h := DO.lt; omega
    go_region_held3 (fun w' => w'.cell? ⟨D, 1, none⟩ = some (.slice A1 n1 d1) ∧ w'.cell? ⟨D, 2, none⟩ = some (.slice A2 n2 d2) ∧ w'.cell? ⟨D, 3, none⟩ = some (.slice A3 n3 d3) ∧ w'.cell? ⟨D, 4, none⟩ = some (.slice A4 n4 d4) ∧ w'.cell? ⟨w.heap.size, 0, none⟩ = some (.int .i64 o.kind) ∧ w'.cell? ⟨w.heap.size, 1, none⟩ = some (.int .i64 o.a) ∧ w'.cell? ⟨w.heap.size, 2, none⟩ = some (.int .i64 o.b) ∧ w'.cell? ⟨w.heap.size, 3, none⟩ = some (.int .i64 o.c) ∧ w'.cell? ⟨w.heap.size, 4, none⟩ = some (.int .u64 o.v)) (go_keep)
     (first
       | (go_at_call 100; (with_reducible refine (HDo.out _ ((hRd.below hbd).more hbd.size) (HT.out.on (hbd.mono HBW.out)).f).mono ?_); rintro e wA ⟨hbA, B1, m1, f1, B2, m2, f2, B3, m3, f3, B4, m4, f4, tl, rfl, hO⟩; have hDBA := hDBd.below hbA hDBd.lt; obtain ⟨h0, h1, h2, h3, h4⟩ := hDBA.six; have hDOA := hDOd.below hbA hDOd.lt; obtain ⟨p0, p1, p2, p3, p4⟩ := Blk.five (a := .int .i64 o.kind) (b := .int .i64 o.a) (c := .int .i64 o.b) (d := .int .i64 o.c) (e := .int .u64 o.v) hDOA)
       | (go_at_call 100; (with_reducible refine (HDo.out _ ((hRd.below hbz).more hbz.size) (HT.out.on (hbz.mono HBW.out)).f).mono ?_); rintro e wA ⟨hbA, B1, m1, f1, B2, m2, f2, B3, m3, f3, B4, m4, f4, tl, rfl, hO⟩; have hDBA := (hDB.below hbz hDB.lt).below hbA (hDB.below hbz hDB.lt).lt; obtain ⟨h0, h1, h2, h3, h4⟩ := hDBA.six; have hDOA := (DO.below hbz DO.lt).below hbA (DO.below hbz DO.lt).lt; obtain ⟨p0, p1, p2, p3, p4⟩ := Blk.five (a := .int .i64 o.kind) (b := .int .i64 o.a) (c := .int .i64 o.b) (d := .int .i64 o.c) (e := .int .u64 o.v) hDOA; have hNA := hNz.below hbA hNz.lt; obtain ⟨x0, x1, x2, x3⟩ := hNA.four; obtain ⟨y0, y1, y2, y3⟩ := hNA.four_frozen))
    all_goals
     go_wp2_with fail
     go_meet
    ·exact ⟨_, B1, m1, f1, B2, m2, f2, B3, m3, f3, B4, m4, f4, tl, rfl, rfl, rfl, hbA.size, Blk.new wA _ _, fun h => ⟨(hO.out h).1, ((hO.out h).2.mono hbd.size).belowS (below_new wA _)⟩, (hbd.trans hbA).alloc (hbd.trans hbA).size _⟩
    ·have hq := hbz.trans (hbA.mono hbz.size)
     exact ⟨_, B1, m1, f1, B2, m2, f2, B3, m3, f3, B4, m4, f4, tl, rfl, rfl, rfl, Nat.le_refl _, (((hNA.set_ 0 _).set_ 1 _).set_ 2 _).set_ 3 _, fun h => ⟨(hO.out h).1, ((hO.out h).2.mono hbz.size).store hNA _ _ _ _⟩, below_block4 hq (Nat.le_refl _) _ _ _ _⟩
   case rest =>
    obtain ⟨g, B1, m1, f1, B2, m2, f2, B3, m3, f3, B4, m4, f4, tl, rfl, rfl, rfl, hg, DG, HOo, hbc⟩ := hcut
    obtain ⟨V, hV⟩ : ∃ V, V = wr := ⟨_, rfl⟩
    subst hV
    have hDBc := hDB.below hbc hDB.lt
    have hgr := (grown_of_below hb (some D)).trans (grown_of_below hbc (some D))
    by_cases hE : X.er = 0
    ·obtain ⟨hE1, hE2⟩ := HOo.out hE
     subst hE1
     have gE : (X.er != 0) = false := by simpa using hE
     have HY : Hid (cmdO (some S) (.deed kind many v told) n = ⟨some X.st, if told = true then [IntKind.i64.wrap X.told] else [], 0⟩) := by
      show _ = _
      rw [HX.out, ← HoE.out, ← HXE.out, if_neg (fun h => h hE)]
     obtain ⟨x0, x1, x2, x3⟩ := DG.four
     have y0 := hDBc.cell 0
     have y1 := hDBc.cell 1
     have y2 := hDBc.cell 2
     have y3 := hDBc.cell 3
     have y4 := hDBc.cell 4
     have z1 := hDBc.frozen 1
     have z2 := hDBc.frozen 2
     have z3 := hDBc.frozen 3
     have z4 := hDBc.frozen 4
     have t0 := ((HTt.out).below hbc HTt.out.lt).cell 0
     simp only [deskC, List.getElem?_toArray, List.getElem?_cons_zero, List.getElem?_cons_succ] at y0 y1 y2 y3 y4 t0
     have hDz := (((hDBc.set_ 1 (.slice B1 m1 f1)).set_ 2 (.slice B2 m2 f2)).set_ 3 (.slice B3 m3 f3)).set_ 4 (.slice B4 m4 f4)
     have hOz := (((((hE2.mono HBW.out).apartS hDBc 1 (.slice B1 m1 f1)).apartS (hDBc.set_ 1 (.slice B1 m1 f1)) 2 (.slice B2 m2 f2)).apartS ((hDBc.set_ 1 (.slice B1 m1 f1)).set_ 2 (.slice B2 m2 f2)) 3 (.slice B3 m3 f3)).apartS (((hDBc.set_ 1 (.slice B1 m1 f1)).set_ 2 (.slice B2 m2 f2)).set_ 3 (.slice B3 m3 f3)) 4 (.slice B4 m4 f4))
     have hgz := (((hgr.trans (grown_set _ ⟨D, 1, none⟩ (.slice B1 m1 f1))).trans (grown_set _ ⟨D, 2, none⟩ (.slice B2 m2 f2))).trans (grown_set _ ⟨D, 3, none⟩ (.slice B3 m3 f3))).trans (grown_set _ ⟨D, 4, none⟩ (.slice B4 m4 f4))
     have hDk : DeskAt ((((wc.setCell ⟨D, 1, none⟩ (.slice B1 m1 f1)).setCell ⟨D, 2, none⟩ (.slice B2 m2 f2)).setCell ⟨D, 3, none⟩ (.slice B3 m3 f3)).setCell ⟨D, 4, none⟩ (.slice B4 m4 f4)) B D (some X.st) := ⟨hBD, HNX.out hE, B1, m1, f1, B2, m2, f2, B3, m3, f3, B4, m4, f4, hDz, hOz⟩
     clear DG hDBc hDB hDO hDz hOz hgr hE HOo HX HDo hRd hE2 DO DR HD HTt hG
     have HA : Hid (told = true → DeskPost w B D (cmdO (some S) (.deed kind many v told) n) (.returned (.tuple #[.slice (some ⟨wc.heap.size, 0, none⟩) 1 1, .int .i64 0])) (((((wc.setCell ⟨D, 1, none⟩ (.slice B1 m1 f1)).setCell ⟨D, 2, none⟩ (.slice B2 m2 f2)).setCell ⟨D, 3, none⟩ (.slice B3 m3 f3)).setCell ⟨D, 4, none⟩ (.slice B4 m4 f4)).alloc (.cells #[.int .i64 (wrap64 X.told)] 3))) := by
      intro htd
      rw [HY.out, if_pos htd, ← IntWalk.i64_left]
      have h1 := hgz.trans (World.grownBy_alloc _ (.cells #[.int .i64 (IntKind.i64.wrap X.told)] 3) _)
      have h2 := hDk.below (below_new _ (.cells #[.int .i64 (IntKind.i64.wrap X.told)] 3))
      have h3 := Reads.one_ (Blk.new ((((wc.setCell ⟨D, 1, none⟩ (.slice B1 m1 f1)).setCell ⟨D, 2, none⟩ (.slice B2 m2 f2)).setCell ⟨D, 3, none⟩ (.slice B3 m3 f3)).setCell ⟨D, 4, none⟩ (.slice B4 m4 f4)) 3 #[.int .i64 (IntKind.i64.wrap X.told)])
      simp only [World.size_setCell] at h3
      exact ⟨h1, h2, _, 1, 1, rfl, fun _ => h3⟩
     have HB2 : Hid (told = false → DeskPost w B D (cmdO (some S) (.deed kind many v told) n) (.returned (.tuple #[.slice none 0 0, .int .i64 0])) ((((wc.setCell ⟨D, 1, none⟩ (.slice B1 m1 f1)).setCell ⟨D, 2, none⟩ (.slice B2 m2 f2)).setCell ⟨D, 3, none⟩ (.slice B3 m3 f3)).setCell ⟨D, 4, none⟩ (.slice B4 m4 f4))) := by
      intro htd
      rw [HY.out, if_neg (by rw [htd]; decide)]
      exact ⟨hgz, hDk, none, 0, 0, rfl, fun _ => Reads.none_⟩
     clear hgz hDk HY
     cases told with
     | true =>
       have HA2 := Lib.hid (HA.out rfl)
       clear HA HB2
       go_wp2_with fail
       go_ret2
       exact HA2.out
     | false =>
       have HB3 := Lib.hid (HB2.out rfl)
       clear HA HB2
       go_wp2_with fail
       go_ret2
       exact HB3.out
    ·have gE : (X.er != 0) = true := by simpa using hE
     have HY : Hid (cmdO (some S) (.deed kind many v told) n = ⟨some S, [], X.er⟩) := by
      show _ = _
      rw [HX.out, ← HoE.out, ← HXE.out, if_pos hE]
     have hDk := (HD.out.below hb).below hbc
     clear DG hDBc hDB hDO hE HOo HX HDo hRd DO DR HD HTt hG
     go_wp2_with fail
     go_ret2
     rw [HY.out]
     exact ⟨hgr, hDk, none, 0, 0, rfl, fun _ => Reads.none_⟩
end Go.Proofs.YtblkhipbhahmeaaGreatDoor
