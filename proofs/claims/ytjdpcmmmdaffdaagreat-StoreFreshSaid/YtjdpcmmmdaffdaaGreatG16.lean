/-
  Texts joined: StUse StLaw4 StLaw5 StPeek WithPins.
-/
import Derived.Test.YtjdpcmmmdaffdaaGreatG5
import Derived.Test.YtjdpcmmmdaffdaaGreatG11
import Derived.Test.YtjdpcmmmdaffdaaGreatG14
import Derived.Test.YtjdpcmmmdaffdaaGreatG15
/-
  package store: slotted, Use, Drop, Peek.
-/
namespace Go.Proofs.YtjdpcmmmdaffdaaGreat
open Go.RowKit

def slotTE (S : St) (slot : Int) : Int := if stE S ≠ 0 then stE S else if slot < 0 ∨ (S.r.length : Int) ≤ slot then 5 else 0
theorem slotTE_zero {S : St} {slot : Int} (h : slotTE S slot = 0) : StOk S ∧ ∃ k : Nat, slot = k ∧ k < S.r.length := by
  unfold slotTE at h
  split at h
  · rename_i h0; exact absurd h h0
  · rename_i h0
    split at h
    · cases h
    · exact ⟨stE_ok.1 (by simpa using h0), slot.toNat, by omega, by omega⟩
theorem slotTE_of {S : St} {k : Nat} (h : StOk S) (hk : k < S.r.length) : slotTE S k = 0 := by
  unfold slotTE
  rw [if_neg (by rw [stE_ok.2 h]; decide), if_neg (by omega)]
set_option maxRecDepth 100000 in
set_option maxHeartbeats 4000000 in
theorem slotted_any (A : Option Addr) (n c : Nat) (RA : Option Addr) (rn rc : Nat) (PA : Option Addr) (pn pc : Nat) (HA : Option Addr) (hn hc : Nat) (S : St) (slot : Int) (w : World) (hR : StR w w.heap.size A n RA rn PA pn HA hn S) (hK : StK n c rn pn hn S) :
    Calls Tryz.prog 57 #[.agg #[.slice A n c, .slice RA rn rc, .slice PA pn pc, .slice HA hn hc], .int .i64 slot] w fun e w' => Below w.heap.size w w' ∧ e = .returned (.int .i64 (slotTE S slot)) := by
  have HCk := Lib.hid (fun w hR => stcheck_any A n c RA rn rc PA pn pc HA hn hc S w hR hK)
  obtain ⟨-, hl, -, -⟩ := hR.lens
  have HX : Hid (slotTE S slot = if stE S ≠ 0 then stE S else if slot < 0 ∨ (rn : Int) ≤ slot then 5 else 0) := by
    show _ = _
    rw [← hl]
    rfl
  generalize slotTE S slot = F at *
  generalize stE S = E at *
  clear hl
  have hb1 := below_new w (.cells #[.slice A n c, .slice RA rn rc, .slice PA pn pc, .slice HA hn hc] 28)
  have DS := Blk.new w 28 #[.slice A n c, .slice RA rn rc, .slice PA pn pc, .slice HA hn hc]
  obtain ⟨s0, s1, s2, s3⟩ := DS.four
  go_enter Tryz.func57, Tryz.ntmps57
  go_wp2_with fail
  refine (HCk.out _ ((hR.below hb1).more hb1.size)).mono ?_
  rintro e w2 ⟨rfl, hb2⟩
  have hb02 := below_step hb1 hb2
  have DS2 := DS.below hb2 DS.lt
  clear s0 s1 s2 s3 hb1 hb2 DS
  obtain ⟨s0, s1, s2, s3⟩ := DS2.four
  by_cases h0 : E = 0
  · subst h0
    by_cases h1 : slot < 0
    · have g1 : decide (slot < 0) = true := decide_eq_true h1
      have HF : Hid (F = 5) := by show _ = _; rw [HX.out, if_neg (by decide), if_pos (.inl h1)]
      clear h1
      go_wp2_with fail
      go_ret
      exact ⟨hb02, by rw [HF.out]; rfl⟩
    · have g1 : decide (slot < 0) = false := decide_eq_false h1
      obtain ⟨k, rfl⟩ := Int.eq_ofNat_of_zero_le (show 0 ≤ slot by omega)
      by_cases h2 : rn ≤ k
      · have g2 : decide (rn ≤ k) = true := decide_eq_true h2
        have HF : Hid (F = 5) := by show _ = _; rw [HX.out, if_neg (by decide), if_pos (.inr (by omega))]
        clear h1 h2
        go_wp2_with fail
        go_ret
        exact ⟨hb02, by rw [HF.out]; rfl⟩
      · have g2 : decide (rn ≤ k) = false := decide_eq_false h2
        have HF : Hid (F = 0) := by show _ = _; rw [HX.out, if_neg (by decide), if_neg (by omega)]
        clear h1 h2
        go_wp2_with fail
        go_ret
        exact ⟨hb02, by rw [HF.out]; rfl⟩
  · have g1 : (E == 0) = false := by simpa using h0
    have HF : Hid (F = E) := by show _ = _; rw [HX.out, if_pos h0]
    clear h0
    go_wp2_with fail
    go_ret
    exact ⟨hb02, by rw [HF.out]; rfl⟩

set_option maxRecDepth 100000 in
set_option maxHeartbeats 4000000 in
theorem dropFn_ok (A : Option Addr) (n c : Nat) (RA : Option Addr) (rn rc : Nat) (PA : Option Addr) (pn pc : Nat) (HA : Option Addr) (hn hc : Nat) (S : St) (k : Nat) (w : World) (hR : StR w w.heap.size A n RA rn PA pn HA hn S) (hK : StK n c rn pn hn S) (hOK : StOk S) (hk : k < S.r.length) :
    Calls Tryz.prog 24 #[.agg #[.slice A n c, .slice RA rn rc, .slice PA pn pc, .slice HA hn hc], .int .i64 k] w fun e w' => Below w.heap.size w w' ∧ ∃ (A1 : Option Addr) (c1 : Nat) (A2 : Option Addr) (c2 : Nat) (A3 : Option Addr) (c3 : Nat) (A4 : Option Addr) (c4 : Nat), e = .returned (.tuple #[.agg #[.slice A1 n c1, .slice A2 rn c2, .slice A3 pn c3, .slice A4 hn c4], .int .i64 0]) ∧ StO w' w.heap.size A1 n c1 A2 rn c2 A3 pn c3 A4 hn c4 ⟨S.a, S.r.set k (-1), S.p, S.l⟩ := by
  have HSl := Lib.hid (fun w hR => slotted_any A n c RA rn rc PA pn pc HA hn hc S k w hR hK)
  rw [slotTE_of hOK hk] at HSl
  obtain ⟨z1, z2, z3, z4⟩ := hR.lens
  obtain ⟨v1, v2, v3, v4⟩ := hands_len hOK
  have HCp := Lib.hid (fun w hR => copied_any A n c RA rn rc PA pn pc HA hn hc S w hR (by omega) (by omega) (by omega) (by omega))
  have hkn : k < rn := by omega
  clear hOK z1 z2 z3 z4 v1 v2 v3 v4 hk
  have hb0 := below_new w (.cells #[.slice A n c, .slice RA rn rc, .slice PA pn pc, .slice HA hn hc] 28)
  have hb1 := hb0.alloc hb0.size (.cells #[.slice none 0 0, .slice none 0 0, .slice none 0 0, .slice none 0 0] 28)
  have DS := (Blk.new w 28 #[.slice A n c, .slice RA rn rc, .slice PA pn pc, .slice HA hn hc]).alloc (.cells #[.slice none 0 0, .slice none 0 0, .slice none 0 0, .slice none 0 0] 28)
  have DR := Blk.new (w.alloc (.cells #[.slice A n c, .slice RA rn rc, .slice PA pn pc, .slice HA hn hc] 28)) 28 #[.slice none 0 0, .slice none 0 0, .slice none 0 0, .slice none 0 0]
  rw [World.size_alloc] at DR
  obtain ⟨s0, s1, s2, s3⟩ := DS.four
  clear hb0
  go_enter Tryz.func24, Tryz.ntmps24
  go_wp2_with fail
  refine (HSl.out _ ((hR.below hb1).more hb1.size)).mono ?_
  rintro e w2 ⟨hb2, rfl⟩
  have hb02 := below_step hb1 hb2
  have DS2 := DS.below hb2 DS.lt
  have DR2 := DR.below hb2 DR.lt
  clear s0 s1 s2 s3 hb1 hb2 DS DR
  obtain ⟨s0, s1, s2, s3⟩ := DS2.four
  have hb0x := hb02
  have DSx := DS2
  have DRx := DR2
  have hlt : w.heap.size + 1 < w2.heap.size := DRx.lt
  clear s0 s1 s2 s3
  obtain ⟨s0, s1, s2, s3⟩ := DSx.four
  go_wp2_with fail
  refine (HCp.out _ ((hR.below hb0x).more hb0x.size)).mono ?_
  rintro e wc ⟨hbc, A1, c1, A2, c2, A3, c3, A4, c4, rfl, hO⟩
  have hb03 := below_step hb0x hbc
  have DS3 := DSx.below hbc DSx.lt
  have DR3 := DRx.below hbc DRx.lt
  clear s0 s1 s2 s3
  obtain ⟨s0, s1, s2, s3⟩ := DS3.four
  obtain ⟨f0, f1, f2, f3⟩ := DS3.four_frozen
  have hO4 := hO.store DS3 (.slice A1 n c1) (.slice A2 rn c2) (.slice A3 pn c3) (.slice A4 hn c4)
  have DS4 := DS3.store4 (.slice A1 n c1) (.slice A2 rn c2) (.slice A3 pn c3) (.slice A4 hn c4)
  have DR4 := DR3.far4 (g' := w.heap.size) (by omega) (.slice A1 n c1) (.slice A2 rn c2) (.slice A3 pn c3) (.slice A4 hn c4)
  have hb04 := below_block4 (g := w.heap.size) hb03 (Nat.le_refl _) (.slice A1 n c1) (.slice A2 rn c2) (.slice A3 pn c3) (.slice A4 hn c4)
  obtain ⟨d0, d1, d2, d3⟩ := DS4.four
  obtain ⟨q, rfl, qh, qc, qB⟩ := own_some hO4.r (by omega)
  have qe : k < (S.r.map (Value.int .i64)).length := by have := hR.lens.2.1; rw [List.length_map]; omega
  have qcc := hO4.r.cellAt k (by omega)
  rw [List.getElem?_eq_getElem qe] at qcc
  have qf := hO4.r.frozenAt k
  have hO5 := (hO4.setR (p := k) (v := -1) qB).mono hb0x.size
  have DS5 := DS4.far (p := ⟨q, k, none⟩) (by dsimp only; omega) (.int .i64 (-1))
  have DR5 := DR4.far (p := ⟨q, k, none⟩) (by dsimp only; omega) (.int .i64 (-1))
  have hb05 := hb04.setCell (p := ⟨q, k, none⟩) (by dsimp only; have := hb0x.size; omega) (.int .i64 (-1))
  obtain ⟨o0, o1, o2, o3⟩ := DS5.four
  obtain ⟨r0, r1, r2, r3⟩ := DR5.four
  obtain ⟨h0, h1, h2, h3⟩ := DR5.four_frozen
  clear hO4 hO qB
  go_wp2_with fail
  refine bodyPost_ret (v := .tuple #[.agg #[.slice A1 n c1, .slice (some ⟨q, 0, none⟩) rn c2, .slice A3 pn c3, .slice A4 hn c4], .int .i64 0]) ?_ rfl ⟨below_block4 hb05 (Nat.le_succ _) _ _ _ _, A1, c1, _, c2, A3, c3, A4, c4, rfl, hO5.store DR5 _ _ _ _⟩
  obtain ⟨z0, z1, z2, z3⟩ := (DR5.store4 (.slice A1 n c1) (.slice (some ⟨q, 0, none⟩) rn c2) (.slice A3 pn c3) (.slice A4 hn c4)).four
  simp only [results, Tryz.results24]
  go_simp

set_option maxRecDepth 100000 in
set_option maxHeartbeats 4000000 in
theorem dropFn_bad (A : Option Addr) (n c : Nat) (RA : Option Addr) (rn rc : Nat) (PA : Option Addr) (pn pc : Nat) (HA : Option Addr) (hn hc : Nat) (S : St) (slot : Int) (w : World) (hR : StR w w.heap.size A n RA rn PA pn HA hn S) (hK : StK n c rn pn hn S) (hE : slotTE S slot ≠ 0) :
    Calls Tryz.prog 24 #[.agg #[.slice A n c, .slice RA rn rc, .slice PA pn pc, .slice HA hn hc], .int .i64 slot] w fun e w' => Below w.heap.size w w' ∧ e = .returned (.tuple #[.agg #[.slice none 0 0, .slice none 0 0, .slice none 0 0, .slice none 0 0], .int .i64 (slotTE S slot)]) := by
  have HSl := Lib.hid (fun w hR => slotted_any A n c RA rn rc PA pn pc HA hn hc S slot w hR hK)
  have g1 : (slotTE S slot != 0) = true := by simpa using hE
  generalize slotTE S slot = F at *
  have hb0 := below_new w (.cells #[.slice A n c, .slice RA rn rc, .slice PA pn pc, .slice HA hn hc] 28)
  have hb1 := hb0.alloc hb0.size (.cells #[.slice none 0 0, .slice none 0 0, .slice none 0 0, .slice none 0 0] 28)
  have DS := (Blk.new w 28 #[.slice A n c, .slice RA rn rc, .slice PA pn pc, .slice HA hn hc]).alloc (.cells #[.slice none 0 0, .slice none 0 0, .slice none 0 0, .slice none 0 0] 28)
  have DR := Blk.new (w.alloc (.cells #[.slice A n c, .slice RA rn rc, .slice PA pn pc, .slice HA hn hc] 28)) 28 #[.slice none 0 0, .slice none 0 0, .slice none 0 0, .slice none 0 0]
  rw [World.size_alloc] at DR
  obtain ⟨s0, s1, s2, s3⟩ := DS.four
  clear hb0
  go_enter Tryz.func24, Tryz.ntmps24
  go_wp2_with fail
  refine (HSl.out _ ((hR.below hb1).more hb1.size)).mono ?_
  rintro e w2 ⟨hb2, rfl⟩
  have hb02 := below_step hb1 hb2
  have DR2 := DR.below hb2 DR.lt
  clear s0 s1 s2 s3
  obtain ⟨r0, r1, r2, r3⟩ := DR2.four
  obtain ⟨f0, f1, f2, f3⟩ := DR2.four_frozen
  go_wp2_with fail
  refine bodyPost_ret (v := .tuple #[.agg #[.slice none 0 0, .slice none 0 0, .slice none 0 0, .slice none 0 0], .int .i64 F]) ?_ rfl ⟨below_block4 hb02 (Nat.le_succ _) _ _ _ _, rfl⟩
  obtain ⟨z0, z1, z2, z3⟩ := (DR2.store4 (.slice none 0 0) (.slice none 0 0) (.slice none 0 0) (.slice none 0 0)).four
  simp only [results, Tryz.results24]
  go_simp

end Go.Proofs.YtjdpcmmmdaffdaaGreat

/-
  Plain law: slots, roots and pins of a right store are set. No program stands here.
-/
namespace Go.Proofs.YtjdpcmmmdaffdaaGreat
open Go.RowKit

theorem begs_cases {S : St} {x : Int} (h : x ∈ S.begs) : (x ∈ S.r ∧ 0 ≤ x) ∨ (∃ s ∈ S.l, s.opn = true ∧ s.loc = x) ∨ ∃ y ∈ S.p, y.loc = x := fromL_mem.1 h
theorem StOk.slots {S : St} (h : StOk S) {j : Nat} {u : Slot} (hu : slotE u = 0) (ho : u.opn = true → u.loc ∈ S.begs) : StOk ⟨S.a, S.r, S.p, S.l.set j u⟩ := by
  refine ⟨h.arena, h.roots, h.pins, handE_set h.hands hu, fun x hx => ?_⟩
  rcases fromL_mem.1 hx with h1 | ⟨s, h1, h2, rfl⟩ | ⟨y, h1, rfl⟩
  · exact h.live x (root_at h1.1 h1.2)
  · rcases List.mem_or_eq_of_mem_set h1 with h1 | rfl
    · exact h.live _ (open_at h1 h2)
    · exact h.live _ (ho h2)
  · exact h.live _ (pin_at h1)
theorem StOk.rootsSet {S : St} (h : StOk S) {k : Nat} {y : Int} (hy : y = -1 ∨ y ∈ S.begs) : StOk ⟨S.a, S.r.set k y, S.p, S.l⟩ := by
  obtain ⟨h1, h2, h3, h4⟩ := rootE_ok h.roots
  have hyr : -1 ≤ y ∧ y < S.a.length := by
    rcases hy with rfl | hy
    · omega
    · have := begs_lt h.arena (h.live y hy); omega
  refine ⟨h.arena, rootE_of h1 h2 (by rw [List.length_set]; exact h3) (fun v hv => ?_), h.pins, h.hands, fun x hx => ?_⟩
  · rcases List.mem_or_eq_of_mem_set hv with hv | rfl
    · exact h4 v hv
    · exact hyr
  · rcases fromL_mem.1 hx with ⟨q1, q2⟩ | ⟨s, q1, q2, rfl⟩ | ⟨z, q1, rfl⟩
    · rcases List.mem_or_eq_of_mem_set q1 with q1 | rfl
      · exact h.live _ (root_at q1 q2)
      · rcases hy with hy | hy
        · omega
        · exact h.live _ hy
    · exact h.live _ (open_at q1 q2)
    · exact h.live _ (pin_at q1)
theorem StOk.pinsSet {S : St} (h : StOk S) {p : List Rn} (hp : PinsOk p) (hl : ∀ y ∈ p, y.loc ∈ S.begs) : StOk ⟨S.a, S.r, p, S.l⟩ := by
  refine ⟨h.arena, h.roots, hp, h.hands, fun x hx => ?_⟩
  rcases fromL_mem.1 hx with h1 | ⟨s, h1, h2, rfl⟩ | ⟨y, h1, rfl⟩
  · exact h.live x (root_at h1.1 h1.2)
  · exact h.live _ (open_at h1 h2)
  · exact h.live _ (hl y h1)
theorem slot_open {g x : Int} (h0 : 0 ≤ g) (h1 : g < 65535) (hx : 0 ≤ x ∧ x < 256) : slotE ⟨g + 1, true, x⟩ = 0 := by
  unfold slotE
  rw [if_neg (by simp only; omega), if_neg (by simp only; simp; omega)]
theorem slot_shut {g : Int} (h0 : 0 ≤ g) (h1 : g ≤ 65535) : slotE ⟨g, false, 0⟩ = 0 := by
  unfold slotE
  rw [if_neg (by simp only; omega), if_neg (by simp)]
theorem slotE_gen {s : Slot} (h : slotE s = 0) : 0 ≤ s.gen ∧ s.gen ≤ 65535 := by
  unfold slotE at h
  split at h
  · cases h
  · omega
theorem slotFree_ok {s : Slot} (h : slotFree s = true) : s.opn = false ∧ s.gen < 65535 := by
  unfold slotFree at h
  simp only [Bool.and_eq_true, Bool.not_eq_true', decide_eq_true_eq] at h
  exact h
/-- A root's object, open to be named. -/
structure Opens (S : St) (X : Int) (j : Nat) (sl : Slot) : Prop where
  ix : freeIx S.l = j
  at_ : S.l[j]? = some sl
  free : slotFree sl = true
theorem open_cases {S : St} (hS : StOk S) {X : Int} (hX : X ∈ S.begs) : (openE S.l X = 0 ∧ ∃ j sl, Opens S X j sl ∧ 0 ≤ sl.gen ∧ sl.gen < 65535 ∧ sl.opn = false ∧ j < 16) ∨ openE S.l X = 7 := by
  have h1 := begs_lt hS.arena (hS.live X hX)
  have h2 := (parse_ok (checkE_ok.1 hS.arena).1).1
  unfold openE
  rw [if_neg (by simp [hS.hands]), if_neg (by omega)]
  rcases freeIx_cases S.l with ⟨e, -⟩ | ⟨i, s, e, e2, e3⟩
  · exact .inr (by rw [if_pos e])
  · left
    rw [if_neg (by omega)]
    have h3 := slotE_gen (slotE_of hS.hands e2)
    have h4 := slotFree_ok e3
    have h5 := (handE_ok.1 hS.hands).1
    exact ⟨rfl, i, s, ⟨e, e2, e3⟩, h3.1, h4.2, h4.1, by have := (List.getElem?_eq_some_iff.1 e2).1; omega⟩
theorem Coll.root {S S' : St} {fr : Int} {L Y now : List Int} (h : Coll S S' fr L Y now) (hS : StOk S) {k : Nat} {x : Int} (hx : S.r[k]? = some x) (h0 : 0 ≤ x) : S'.r[k]? = some (posL L Y x) ∧ 0 ≤ posL L Y x := by
  rw [h.r' hS, List.getElem?_map, hx]
  refine ⟨?_, (h.pos (root_at (List.mem_of_getElem? hx) h0)).1⟩
  simp only [Option.map_some, phiV, if_pos h0]
theorem Coll.slot {S S' : St} {fr : Int} {L Y now : List Int} (h : Coll S S' fr L Y now) (hS : StOk S) {j : Nat} {g x : Int} (hs : S.l[j]? = some ⟨g, true, x⟩) : S'.l[j]? = some ⟨g, true, posL L Y x⟩ := by
  rw [h.l' hS, List.getElem?_map, hs]
  simp [phiS]
theorem noneS_ok : StOk ⟨[], [], [], []⟩ := by
  refine ⟨by decide, by decide, pinE_ok.1 (by decide), by decide, fun x hx => ?_⟩
  rcases fromL_mem.1 hx with ⟨h, -⟩ | ⟨s, h, -⟩ | ⟨y, h, -⟩ <;> cases h
theorem noneS_reads (w : World) : StR w w.heap.size none 0 none 0 none 0 none 0 ⟨[], [], [], []⟩ := ⟨Reads.none_, Reads.none_, Reads.none_, Reads.none_⟩
theorem noneS_known : StK 0 0 0 0 0 ⟨[], [], [], []⟩ := ⟨Nat.le_refl _, Nat.zero_le _, (fun x hx => by cases hx), by decide, by decide, by decide⟩
/-- What StoreNames says of names. -/
theorem names_law {S : St} {j : Nat} {g : Int} (hj : j < 16) (h0 : 0 ≤ g) (h1 : g < 65535) :
    (∀ v sl, findS (S.l.set j ⟨g + 1, false, 0⟩) v = some sl → v ≠ j + (g + 1) * 65536) ∧
    ∀ (i : Nat) (t : Slot) (X : Int), (S.l.set j ⟨g + 1, false, 0⟩)[i]? = some t → i < 16 → 0 ≤ t.gen → (i : Int) + (t.gen + 1) * 65536 ≠ j + (g + 1) * 65536 ∧ findS ((S.l.set j ⟨g + 1, false, 0⟩).set i ⟨t.gen + 1, true, X⟩) (j + (g + 1) * 65536) = none := by
  constructor
  · rintro v sl hv rfl
    rw [notfound_closed (u := ⟨g + 1, false, 0⟩) (by omega) rfl] at hv
    cases hv
  · intro i t X ht hi ht0
    have hne : (i : Int) + (t.gen + 1) * 65536 ≠ j + (g + 1) * 65536 := by
      intro e
      have hij : i = j := by omega
      subst hij
      have hl : i < S.l.length := by have := (List.getElem?_eq_some_iff.1 ht).1; rw [List.length_set] at this; exact this
      rw [List.getElem?_set_self hl] at ht
      obtain rfl := Option.some.inj ht
      simp only at e
      omega
    refine ⟨hne, ?_⟩
    cases hf : findS ((S.l.set j ⟨g + 1, false, 0⟩).set i ⟨t.gen + 1, true, X⟩) (j + (g + 1) * 65536) with
    | none => rfl
    | some u =>
      obtain ⟨f1, f2, f3, f4⟩ := findS_some.1 hf
      have e : (((j : Int) + (g + 1) * 65536) % 65536).toNat = j := by omega
      rw [e] at f2 f4
      by_cases hij : i = j
      · subst hij
        have hl : i < (S.l.set i ⟨g + 1, false, 0⟩).length := (List.getElem?_eq_some_iff.1 ht).1
        rw [List.getElem?_set_self hl] at f2
        obtain rfl := Option.some.inj f2
        simp only at f4
        exact absurd f4 hne
      · rw [List.getElem?_set_ne hij] at f2
        have hl : j < S.l.length := by have := (List.getElem?_eq_some_iff.1 f2).1; rw [List.length_set] at this; exact this
        rw [List.getElem?_set_self hl] at f2
        obtain rfl := Option.some.inj f2
        cases f3
end Go.Proofs.YtjdpcmmmdaffdaaGreat

/-
  Plain law: an object is pinned, and let go. No program stands here.
-/
namespace Go.Proofs.YtjdpcmmmdaffdaaGreat
open Go.RowKit

theorem there_of {S : St} (hS : StOk S) {X : Int} (hX : X ∈ S.begs) : thereB X = true := by
  have h1 := begs_lt hS.arena (hS.live X hX)
  have h2 := (parse_ok (checkE_ok.1 hS.arena).1).1
  simp [thereB]
  omega
theorem countP_nn {l : List Rn} (h : PinsOk l) (x : Int) : 0 ≤ countP l x := by
  by_cases hx : ∃ y ∈ l, y.loc = x
  · obtain ⟨y, hy, rfl⟩ := hx
    rw [countP_some h hy]
    have := bad_no.1 (h.ok y hy)
    omega
  · rw [countP_none (fun y hy e => hx ⟨y, hy, e⟩)]
    omega
theorem pin_law {S : St} (hS : StOk S) {X : Int} (hX : X ∈ S.begs) {j : Nat} (h : PinOk S X j) : StOk ⟨S.a, S.r, moreP S.p X j (countP S.p X + 1), S.l⟩ := by
  obtain ⟨h1, h2, h3⟩ := h
  have h0 := countP_nn hS.pins X
  have hp := hS.pins.more h1 (there_of hS hX) (v := countP S.p X + 1) (by omega) (by omega) h3
  refine hS.pinsSet hp (fun y hy => ?_)
  rcases (moreP_mem h1 hS.pins.rise y).1 hy with rfl | ⟨hy, -⟩
  · exact hX
  · exact pin_at hy
theorem unpin_more {T : St} {p : List Rn} {X : Int} {j : Nat} (hp : PinsOk p) (hi : PlaceOf p X j) (hp' : PinsOk (moreP p X j (countP p X + 1))) (hT : T.p = moreP p X j (countP p X + 1)) (hX : thereB X = true) :
    UnpinOk T X j ∧ ∀ j', UnpinOk T X j' → lessP T.p j' X (countP T.p X - 1) = p := by
  have h1 := hi.more hp (v := countP p X + 1)
  have hpT : PinsOk T.p := by rw [hT]; exact hp'
  constructor
  · refine ⟨findE_zero.2 ⟨hpT, hX⟩, by rw [hT]; exact h1.1, ?_⟩
    unfold hasAt
    rw [hT, h1.2]
    simp
  · rintro j' ⟨-, h2, -⟩
    rw [hT] at h2 ⊢
    obtain rfl := h2.unique h1.1
    rw [countP_more hp hp' hi, if_pos rfl, show countP p X + 1 - 1 = countP p X by omega]
    exact less_more hp hi
theorem body_ix {a : List Int} {s : Spot} {K : Nat} (hK : (K : Int) < s.b) : (bodyOf a s)[K]? = a[s.loc.toNat + 1 + s.r.toNat + K]? := by
  unfold bodyOf
  rw [List.getElem?_take, if_pos (by omega), List.getElem?_drop]
theorem Coll.obj {S S' : St} {fr : Int} {L Y now : List Int} (h : Coll S S' fr L Y now) (hS : StOk S) {x : Int} (hx : x ∈ S.begs) {s : Spot} {i : Nat} (hO : ObjAt S x s i) :
    ∃ s' i', ObjAt S' (posL L Y x) s' i' ∧ s'.r = s.r ∧ s'.b = s.b ∧ s'.t = s.t ∧ bodyOf S'.a s' = bodyOf S.a s := by
  have hC := cleaned_of h.is
  have hxL := h.is.reached.roots x (List.mem_append_left _ hx)
  obtain ⟨s1, hs1, e1, e2, e3, e4, -⟩ := hC.laid.iso.at_ x hxL s hO.spot
  have hb : posL L Y x ∈ S'.begs := by
    rw [h.begs' hS, h.is.now]
    exact List.mem_map.2 ⟨x, hx, rfl⟩
  obtain ⟨s2, i2, hO2⟩ := obj_at (h.ok hS) hb
  obtain rfl : s2 = s1 := Option.some.inj (hO2.spot.symm.trans hs1)
  exact ⟨s2, i2, hO2, e1, e2, e3, e4⟩
theorem place_ex {l : List Rn} {x : Int} (h : ∃ y ∈ l, y.loc = x) (hs : PinsOk l) : ∃ j, PlaceOf l x j ∧ hasAt l x j = true := by
  obtain ⟨y, hy, rfl⟩ := h
  obtain ⟨j, hj⟩ := List.mem_iff_getElem?.1 hy
  obtain ⟨q, rfl⟩ := List.getElem?_eq_some_iff.1 hj
  refine ⟨j, ⟨by omega, fun k z hk hz => ?_, fun k z hk hz => ?_⟩, by unfold hasAt; rw [hj]; simp⟩
  · obtain ⟨q2, rfl⟩ := List.getElem?_eq_some_iff.1 hz
    exact List.pairwise_iff_getElem.1 hs.rise k j q2 q hk
  · obtain ⟨q2, rfl⟩ := List.getElem?_eq_some_iff.1 hz
    rcases Nat.eq_or_lt_of_le hk with rfl | hlt
    · exact Int.le_refl _
    · have := List.pairwise_iff_getElem.1 hs.rise j k q q2 hlt
      omega
end Go.Proofs.YtjdpcmmmdaffdaaGreat

/-
  package store: Peek.
-/
namespace Go.Proofs.YtjdpcmmmdaffdaaGreat
open Go.RowKit

set_option maxRecDepth 100000 in
set_option maxHeartbeats 4000000 in
theorem peek_bad (A : Option Addr) (n c : Nat) (RA : Option Addr) (rn rc : Nat) (PA : Option Addr) (pn pc : Nat) (HA : Option Addr) (hn hc : Nat) (S : St) (x k : Int) (w : World) (hR : StR w w.heap.size A n RA rn PA pn HA hn S) (hK : StK n c rn pn hn S) (hE : stE S ≠ 0) :
    Calls Tryz.prog 14 #[.agg #[.slice A n c, .slice RA rn rc, .slice PA pn pc, .slice HA hn hc], .int .i64 x, .int .i64 k] w fun e w' => Below w.heap.size w w' ∧ e = .returned (.tuple #[.int .u64 0, .int .i64 (stE S)]) := by
  have HCk := Lib.hid (fun w hR => stcheck_any A n c RA rn rc PA pn pc HA hn hc S w hR hK)
  have g1 : (stE S != 0) = true := by simpa using hE
  generalize stE S = F at *
  have hb1 := below_new w (.cells #[.slice A n c, .slice RA rn rc, .slice PA pn pc, .slice HA hn hc] 28)
  have DS := Blk.new w 28 #[.slice A n c, .slice RA rn rc, .slice PA pn pc, .slice HA hn hc]
  obtain ⟨s0, s1, s2, s3⟩ := DS.four
  go_enter Tryz.func14, Tryz.ntmps14
  go_wp2_with fail
  refine (HCk.out _ ((hR.below hb1).more hb1.size)).mono ?_
  rintro e w2 ⟨rfl, hb2⟩
  have hb02 := below_step hb1 hb2
  clear s0 s1 s2 s3
  go_wp2_with fail
  go_ret2
  exact ⟨hb02, rfl⟩

set_option maxRecDepth 100000 in
set_option maxHeartbeats 4000000 in
theorem peek_free (A : Option Addr) (n c : Nat) (RA : Option Addr) (rn rc : Nat) (PA : Option Addr) (pn pc : Nat) (HA : Option Addr) (hn hc : Nat) (S : St) (x k : Int) (w : World) (hR : StR w w.heap.size A n RA rn PA pn HA hn S) (hK : StK n c rn pn hn S) (hOK : StOk S) (hx : x ∉ pinsL S.p) :
    Calls Tryz.prog 14 #[.agg #[.slice A n c, .slice RA rn rc, .slice PA pn pc, .slice HA hn hc], .int .i64 x, .int .i64 k] w fun e w' => Below w.heap.size w w' ∧ e = .returned (.tuple #[.int .u64 0, .int .i64 8]) := by
  have HCk := Lib.hid (fun w hR => stcheck_any A n c RA rn rc PA pn pc HA hn hc S w hR hK)
  rw [stE_ok.2 hOK] at HCk
  obtain ⟨z1, z2, z3, z4⟩ := hR.lens
  have hp16 := hOK.pins.len
  have HPn := Lib.hid (fun w hr => pinned_any A n c RA rn rc PA pn pc HA hn hc S.p w hr (by omega))
  obtain ⟨m, HM⟩ : ∃ m, Hid (m = (pinsL S.p).length) := ⟨_, rfl⟩
  have hm : m ≤ 16 := by rw [HM.out]; unfold pinsL; rw [List.length_map]; exact hp16
  rw [← HM.out] at HPn
  clear hOK z1 z2 z3 z4 hp16
  have hb1 := below_new w (.cells #[.slice A n c, .slice RA rn rc, .slice PA pn pc, .slice HA hn hc] 28)
  have DS := Blk.new w 28 #[.slice A n c, .slice RA rn rc, .slice PA pn pc, .slice HA hn hc]
  obtain ⟨s0, s1, s2, s3⟩ := DS.four
  go_enter Tryz.func14, Tryz.ntmps14
  go_wp2_with fail
  refine (HCk.out _ ((hR.below hb1).more hb1.size)).mono ?_
  rintro e w2 ⟨rfl, hb2⟩
  have hb02 := below_step hb1 hb2
  have DS2 := DS.below hb2 DS.lt
  clear s0 s1 s2 s3 hb1 hb2 DS
  obtain ⟨s0, s1, s2, s3⟩ := DS2.four
  go_wp2_with fail
  refine (HPn.out _ ((hR.p.below hb02).more hb02.size)).mono ?_
  rintro e w3 ⟨A5, c5, rfl, hN, hb3⟩
  have hb03 := below_step hb02 hb3
  have DS3 := DS2.below hb3 DS2.lt
  have hrN := Reads.of_own hN
  have HCt := Lib.hid (fun b hb => contains_int A5 m c5 w3.heap.size (pinsL S.p) x b w3 hrN (by omega) hb)
  clear s0 s1 s2 s3 hN hrN
  obtain ⟨s0, s1, s2, s3⟩ := DS3.four
  go_wp2_with fail
  refine (HCt.out false (decide_eq_false hx)).mono ?_
  rintro e w4 ⟨rfl, rfl⟩
  clear hx
  go_wp2_with fail
  go_ret2
  exact ⟨hb03, rfl⟩

set_option maxRecDepth 100000 in
set_option maxHeartbeats 4000000 in
theorem peek_range (A : Option Addr) (n c : Nat) (RA : Option Addr) (rn rc : Nat) (PA : Option Addr) (pn pc : Nat) (HA : Option Addr) (hn hc : Nat) (S : St) (x k : Int) (s : Spot) (i : Nat)  (w : World) (hR : StR w w.heap.size A n RA rn PA pn HA hn S) (hK : StK n c rn pn hn S) (hOK : StOk S) (hx : x ∈ pinsL S.p) (hO : ObjAt S x s i) (hk : k < 0 ∨ s.b ≤ k) :
    Calls Tryz.prog 14 #[.agg #[.slice A n c, .slice RA rn rc, .slice PA pn pc, .slice HA hn hc], .int .i64 x, .int .i64 k] w fun e w' => Below w.heap.size w w' ∧ e = .returned (.tuple #[.int .u64 0, .int .i64 4]) := by
  have HCk := Lib.hid (fun w hR => stcheck_any A n c RA rn rc PA pn pc HA hn hc S w hR hK)
  rw [stE_ok.2 hOK] at HCk
  obtain ⟨z1, z2, z3, z4⟩ := hR.lens
  have hp16 := hOK.pins.len
  have HPn := Lib.hid (fun w hr => pinned_any A n c RA rn rc PA pn pc HA hn hc S.p w hr (by omega))
  obtain ⟨m, HM⟩ : ∃ m, Hid (m = (pinsL S.p).length) := ⟨_, rfl⟩
  have hm : m ≤ 16 := by rw [HM.out]; unfold pinsL; rw [List.length_map]; exact hp16
  rw [← HM.out] at HPn
  have HAt := Lib.hid (fun w hr => at_ok A n c S.a x i s w hr hK.cap hK.wf hOK.arena hO.ix hO.at_)
  have hr0 := hO.ok.r0
  have hbb0 := hO.ok.b0
  obtain ⟨q2, HQ2⟩ : ∃ q : Nat, Hid (q = s.b.toNat) := ⟨_, rfl⟩
  rw [← HQ2.out] at HAt
  generalize s.t = t at *
  generalize s.f = f at *
  generalize (refIx (spotsL S.a) S.a s).map (Value.int .i64) = l1 at *
  generalize bodyOf S.a s = l2 at *
  generalize s.r.toNat = q1 at *
  clear hOK z1 z2 z3 z4 hp16 hO
  have hb1 := below_new w (.cells #[.slice A n c, .slice RA rn rc, .slice PA pn pc, .slice HA hn hc] 28)
  have DS := Blk.new w 28 #[.slice A n c, .slice RA rn rc, .slice PA pn pc, .slice HA hn hc]
  obtain ⟨s0, s1, s2, s3⟩ := DS.four
  go_enter Tryz.func14, Tryz.ntmps14
  go_wp2_with fail
  refine (HCk.out _ ((hR.below hb1).more hb1.size)).mono ?_
  rintro e w2 ⟨rfl, hb2⟩
  have hb02 := below_step hb1 hb2
  have DS2 := DS.below hb2 DS.lt
  clear s0 s1 s2 s3 hb1 hb2 DS
  obtain ⟨s0, s1, s2, s3⟩ := DS2.four
  go_wp2_with fail
  refine (HPn.out _ ((hR.p.below hb02).more hb02.size)).mono ?_
  rintro e w3 ⟨A5, c5, rfl, hN, hb3⟩
  have hb03 := below_step hb02 hb3
  have DS3 := DS2.below hb3 DS2.lt
  have hrN := Reads.of_own hN
  have HCt := Lib.hid (fun b hb => contains_int A5 m c5 w3.heap.size (pinsL S.p) x b w3 hrN (by omega) hb)
  clear s0 s1 s2 s3 hN hrN
  obtain ⟨s0, s1, s2, s3⟩ := DS3.four
  go_wp2_with fail
  refine (HCt.out true (decide_eq_true hx)).mono ?_
  rintro e w4 ⟨rfl, rfl⟩
  clear hx HCt
  go_wp2_with fail
  refine (HAt.out _ ((hR.a.below hb03).more hb03.size)).mono ?_
  rintro e w5 ⟨hb5, B1, d1, B2, d2, rfl, o1, o2⟩
  have hb05 := (below_step hb03 hb5).alloc (below_step hb03 hb5).size (.cells #[.int .i64 t, .slice B1 q1 d1, .slice B2 q2 d2, .bool f] 55)
  have DG := Blk.new w5 55 #[.int .i64 t, .slice B1 q1 d1, .slice B2 q2 d2, .bool f]
  clear s0 s1 s2 s3
  obtain ⟨s0, s1, s2, s3⟩ := DG.four
  by_cases h1 : k < 0
  · have g1 : decide (k < 0) = true := decide_eq_true h1
    clear h1 hk
    go_wp2_with fail
    go_ret2
    exact ⟨hb05, rfl⟩
  · have g1 : decide (k < 0) = false := decide_eq_false h1
    obtain ⟨K, rfl⟩ := Int.eq_ofNat_of_zero_le (show 0 ≤ k by omega)
    have g2 : decide (q2 ≤ K) = true := decide_eq_true (by have := HQ2.out; omega)
    clear h1 hk
    go_wp2_with fail
    go_ret2
    exact ⟨hb05, rfl⟩

set_option maxRecDepth 100000 in
set_option maxHeartbeats 4000000 in
theorem peek_ok (A : Option Addr) (n c : Nat) (RA : Option Addr) (rn rc : Nat) (PA : Option Addr) (pn pc : Nat) (HA : Option Addr) (hn hc : Nat) (S : St) (x k : Int) (s : Spot) (i : Nat) (v : Nat) (w : World) (hR : StR w w.heap.size A n RA rn PA pn HA hn S) (hK : StK n c rn pn hn S) (hOK : StOk S) (hx : x ∈ pinsL S.p) (hO : ObjAt S x s i) (hk : 0 ≤ k ∧ k < s.b) (hv : (bodyOf S.a s)[k.toNat]? = some (v : Int)) :
    Calls Tryz.prog 14 #[.agg #[.slice A n c, .slice RA rn rc, .slice PA pn pc, .slice HA hn hc], .int .i64 x, .int .i64 k] w fun e w' => Below w.heap.size w w' ∧ e = .returned (.tuple #[.int .u64 v, .int .i64 0]) := by
  have HCk := Lib.hid (fun w hR => stcheck_any A n c RA rn rc PA pn pc HA hn hc S w hR hK)
  rw [stE_ok.2 hOK] at HCk
  obtain ⟨z1, z2, z3, z4⟩ := hR.lens
  have hp16 := hOK.pins.len
  have HPn := Lib.hid (fun w hr => pinned_any A n c RA rn rc PA pn pc HA hn hc S.p w hr (by omega))
  obtain ⟨m, HM⟩ : ∃ m, Hid (m = (pinsL S.p).length) := ⟨_, rfl⟩
  have hm : m ≤ 16 := by rw [HM.out]; unfold pinsL; rw [List.length_map]; exact hp16
  rw [← HM.out] at HPn
  have HAt := Lib.hid (fun w hr => at_ok A n c S.a x i s w hr hK.cap hK.wf hOK.arena hO.ix hO.at_)
  have hr0 := hO.ok.r0
  have hbb0 := hO.ok.b0
  obtain ⟨q2, HQ2⟩ : ∃ q : Nat, Hid (q = s.b.toNat) := ⟨_, rfl⟩
  rw [← HQ2.out] at HAt
  obtain ⟨K, rfl⟩ := Int.eq_ofNat_of_zero_le hk.1
  have g1 : decide ((K : Int) < 0) = false := decide_eq_false (by omega)
  have g2 : decide (q2 ≤ K) = false := decide_eq_false (by have := HQ2.out; omega)
  have hkq : K < q2 := by have := HQ2.out; omega
  have HV := Lib.hid hv
  rw [Int.toNat_natCast] at HV
  clear hv hk
  generalize s.t = t at *
  generalize s.f = f at *
  generalize (refIx (spotsL S.a) S.a s).map (Value.int .i64) = l1 at *
  generalize bodyOf S.a s = l2 at *
  generalize s.r.toNat = q1 at *
  clear hOK z1 z2 z3 z4 hp16 hO
  have hb1 := below_new w (.cells #[.slice A n c, .slice RA rn rc, .slice PA pn pc, .slice HA hn hc] 28)
  have DS := Blk.new w 28 #[.slice A n c, .slice RA rn rc, .slice PA pn pc, .slice HA hn hc]
  obtain ⟨s0, s1, s2, s3⟩ := DS.four
  go_enter Tryz.func14, Tryz.ntmps14
  go_wp2_with fail
  refine (HCk.out _ ((hR.below hb1).more hb1.size)).mono ?_
  rintro e w2 ⟨rfl, hb2⟩
  have hb02 := below_step hb1 hb2
  have DS2 := DS.below hb2 DS.lt
  clear s0 s1 s2 s3 hb1 hb2 DS
  obtain ⟨s0, s1, s2, s3⟩ := DS2.four
  go_wp2_with fail
  refine (HPn.out _ ((hR.p.below hb02).more hb02.size)).mono ?_
  rintro e w3 ⟨A5, c5, rfl, hN, hb3⟩
  have hb03 := below_step hb02 hb3
  have DS3 := DS2.below hb3 DS2.lt
  have hrN := Reads.of_own hN
  have HCt := Lib.hid (fun b hb => contains_int A5 m c5 w3.heap.size (pinsL S.p) x b w3 hrN (by omega) hb)
  clear s0 s1 s2 s3 hN hrN
  obtain ⟨s0, s1, s2, s3⟩ := DS3.four
  go_wp2_with fail
  refine (HCt.out true (decide_eq_true hx)).mono ?_
  rintro e w4 ⟨rfl, rfl⟩
  clear hx HCt
  go_wp2_with fail
  refine (HAt.out _ ((hR.a.below hb03).more hb03.size)).mono ?_
  rintro e w5 ⟨hb5, B1, d1, B2, d2, rfl, o1, o2⟩
  have hb05 := (below_step hb03 hb5).alloc (below_step hb03 hb5).size (.cells #[.int .i64 t, .slice B1 q1 d1, .slice B2 q2 d2, .bool f] 55)
  have DG := Blk.new w5 55 #[.int .i64 t, .slice B1 q1 d1, .slice B2 q2 d2, .bool f]
  clear s0 s1 s2 s3
  obtain ⟨s0, s1, s2, s3⟩ := DG.four
  have hr2 := (Reads.of_own o2).alloc (Nat.le_refl _) (.cells #[.int .i64 t, .slice B1 q1 d1, .slice B2 q2 d2, .bool f] 55)
  obtain ⟨ad, u, rfl, had, hu, cu⟩ := hr2.num hkq
  obtain rfl : u = v := Option.some.inj (hu.symm.trans HV.out)
  clear hu o1 o2 hr2
  go_wp2_with fail
  go_ret2
  exact ⟨hb05, rfl⟩
end Go.Proofs.YtjdpcmmmdaffdaaGreat

/-
  The laws' own function withPins.
-/
namespace Go.Proofs.YtjdpcmmmdaffdaaGreat
open Go.RowKit

set_option maxRecDepth 100000 in
set_option maxHeartbeats 1000000 in
theorem withPins_any (A : Option Addr) (n c : Nat) (RA : Option Addr) (rn rc : Nat) (PA : Option Addr) (pn pc : Nat) (HA : Option Addr) (hn hc : Nat) (QA : Option Addr) (qn qc : Nat) (w : World) :
    Calls Tryz.prog 18 #[.agg #[.slice A n c, .slice RA rn rc, .slice PA pn pc, .slice HA hn hc], .slice QA qn qc] w fun e w' => Below w.heap.size w w' ∧ e = .returned (.agg #[.slice A n c, .slice RA rn rc, .slice QA qn qc, .slice HA hn hc]) := by
  have hb0 := below_new w (.cells #[.slice A n c, .slice RA rn rc, .slice PA pn pc, .slice HA hn hc] 28)
  have hb1 := hb0.alloc hb0.size (.cells #[.slice none 0 0, .slice none 0 0, .slice none 0 0, .slice none 0 0] 28)
  have DS := (Blk.new w 28 #[.slice A n c, .slice RA rn rc, .slice PA pn pc, .slice HA hn hc]).alloc (.cells #[.slice none 0 0, .slice none 0 0, .slice none 0 0, .slice none 0 0] 28)
  have DR := Blk.new (w.alloc (.cells #[.slice A n c, .slice RA rn rc, .slice PA pn pc, .slice HA hn hc] 28)) 28 #[.slice none 0 0, .slice none 0 0, .slice none 0 0, .slice none 0 0]
  rw [World.size_alloc] at DR
  obtain ⟨s0, s1, s2, s3⟩ := DS.four
  obtain ⟨f0, f1, f2, f3⟩ := DS.four_frozen
  have DS5 := DS.set_ 2 (.slice QA qn qc)
  have DR5 := DR.far (p := ⟨w.heap.size, 2, none⟩) (by dsimp only; omega) (.slice QA qn qc)
  have hb5 := hb1.setCell (p := ⟨w.heap.size, 2, none⟩) (Nat.le_refl _) (.slice QA qn qc)
  obtain ⟨o0, o1, o2, o3⟩ := DS5.four
  obtain ⟨r0, r1, r2, r3⟩ := DR5.four
  obtain ⟨h0, h1, h2, h3⟩ := DR5.four_frozen
  clear hb0
  go_enter Tryz.func18, Tryz.ntmps18
  go_wp2_with fail
  have hz := (below_new w (.cells #[.slice A n c, .slice RA rn rc, .slice QA qn qc, .slice HA hn hc] 28)).alloc (below_new w (.cells #[.slice A n c, .slice RA rn rc, .slice QA qn qc, .slice HA hn hc] 28)).size (.cells #[.slice A n c, .slice RA rn rc, .slice QA qn qc, .slice HA hn hc] 28)
  have DZ := Blk.new (w.alloc (.cells #[.slice A n c, .slice RA rn rc, .slice QA qn qc, .slice HA hn hc] 28)) 28 #[.slice A n c, .slice RA rn rc, .slice QA qn qc, .slice HA hn hc]
  rw [World.size_alloc] at DZ
  refine bodyPost_ret (v := .agg #[.slice A n c, .slice RA rn rc, .slice QA qn qc, .slice HA hn hc]) ?_ rfl ⟨hz, rfl⟩
  obtain ⟨z0, z1, z2, z3⟩ := DZ.four
  simp only [results, Tryz.results18]
  go_simp
end Go.Proofs.YtjdpcmmmdaffdaaGreat
