/-
  Texts joined: StObject StRef StLaw3 StPut PinFind PinLaw.
-/
import Derived.Test.YtjdpcmmmdaffdaaGreatG2
import Derived.Test.YtjdpcmmmdaffdaaGreatG3
import Derived.Test.YtjdpcmmmdaffdaaGreatG10
import Derived.Test.YtjdpcmmmdaffdaaGreatG11
/-
  package store: object.
-/
namespace Go.Proofs.YtjdpcmmmdaffdaaGreat
open Go.RowKit

def objE (S : St) (slot : Int) : Int := if stE S ≠ 0 then stE S else if slot < 0 ∨ (S.r.length : Int) ≤ slot then 5 else if S.r.getD slot.toNat 0 < 0 then 5 else 0
theorem objE_ok {S : St} {slot : Int} (h : objE S slot = 0) : StOk S ∧ ∃ (k : Nat) (x : Int), slot = k ∧ S.r[k]? = some x ∧ 0 ≤ x := by
  unfold objE at h
  split at h
  · rename_i h0; exact absurd h h0
  · rename_i h0
    split at h
    · cases h
    · rename_i h1
      split at h
      · cases h
      · rename_i h2
        have hk : slot.toNat < S.r.length := by omega
        refine ⟨stE_ok.1 (by simpa using h0), slot.toNat, S.r[slot.toNat], by omega, List.getElem?_eq_getElem hk, ?_⟩
        rw [List.getD_eq_getElem?_getD, List.getElem?_eq_getElem hk] at h2
        simp only [Option.getD_some] at h2
        omega
theorem objE_of {S : St} {k : Nat} {x : Int} (hS : StOk S) (hx : S.r[k]? = some x) (h0 : 0 ≤ x) : objE S k = 0 := by
  have hk := (List.getElem?_eq_some_iff.1 hx).1
  unfold objE
  rw [if_neg (by rw [stE_ok.2 hS]; decide), if_neg (by omega), if_neg]
  rw [List.getD_eq_getElem?_getD, Int.toNat_natCast, hx]
  simp only [Option.getD_some]
  omega
/-- The object of a root. -/
structure ObjAt (S : St) (x : Int) (s : Spot) (i : Nat) : Prop where
  ix : atIx S.a x = i
  at_ : (spotsL S.a)[i]? = some s
  spot : spotAt (spotsL S.a) x = some s
  ok : SpotOk S.a s
  loc : s.loc = x
  free : s.f = false
theorem obj_at {S : St} (hS : StOk S) {x : Int} (hx : x ∈ S.begs) : ∃ s i, ObjAt S x s i := by
  obtain ⟨i, s, e1, e2, e3, e4, e5, e6, e7⟩ := spots_of_ix (checkE_ok.1 hS.arena).1 (begs_ix (hS.live x hx))
  refine ⟨s, i, e7, e2, ?_, e5, by first | exact e3 | exact e4, by first | exact e3 | exact e4⟩
  unfold spotAt
  rw [← pL_isBeg]
  rcases ixOf_cases (pL x) (spotsL S.a) with ⟨f1, f2⟩ | ⟨i', s', f1, f2, f3, f4⟩
  · have := f2 s (List.mem_of_getElem? e2)
    simp [pL, e3, e4] at this
  · have : i' = i := by omega
    subst this
    obtain rfl := Option.some.inj (f2.symm.trans e2)
    rw [List.find?_eq_some_iff_append]
    refine ⟨f3, (spotsL S.a).take i', (spotsL S.a).drop (i' + 1), ?_, fun y hy => by simp [f4 y hy]⟩
    obtain ⟨q1, q2⟩ := List.getElem?_eq_some_iff.1 f2
    rw [← q2, ← List.drop_eq_getElem_cons q1, List.take_append_drop]

set_option maxRecDepth 100000 in
set_option maxHeartbeats 4000000 in
theorem object_ok (A : Option Addr) (n c : Nat) (RA : Option Addr) (rn rc : Nat) (PA : Option Addr) (pn pc : Nat) (HA : Option Addr) (hn hc : Nat) (S : St) (k : Nat) (x : Int) (s : Spot) (i : Nat) (w : World)
    (hR : StR w w.heap.size A n RA rn PA pn HA hn S) (hK : StK n c rn pn hn S) (hOK : StOk S) (hx : S.r[k]? = some x) (h0 : 0 ≤ x) (hO : ObjAt S x s i) :
    Calls Tryz.prog 34 #[.agg #[.slice A n c, .slice RA rn rc, .slice PA pn pc, .slice HA hn hc], .int .i64 k] w fun e w' => Below w.heap.size w w' ∧ ∃ A1 c1 A2 c2, e = .returned (.tuple #[.int .i64 x, .agg #[.int .i64 s.t, .slice A1 s.r.toNat c1, .slice A2 s.b.toNat c2, .bool false], .int .i64 0]) ∧
      w'.ownsRow w.heap.size 3 1 (.slice A1 s.r.toNat c1) s.r.toNat ((refIx (spotsL S.a) S.a s).map (.int .i64)) ∧ w'.ownsRow w.heap.size 43 1 (.slice A2 s.b.toNat c2) s.b.toNat ((bodyOf S.a s).map (.int .u64)) := by
  have HCk := Lib.hid (fun w hR => stcheck_any A n c RA rn rc PA pn pc HA hn hc S w hR hK)
  rw [stE_ok.2 hOK] at HCk
  have HAt := Lib.hid (fun w hr => at_ok A n c S.a x i s w hr hK.cap hK.wf hOK.arena hO.ix hO.at_)
  rw [hO.free] at HAt
  obtain ⟨z1, z2, z3, z4⟩ := hR.lens
  have hk : k < rn := by have := (List.getElem?_eq_some_iff.1 hx).1; omega
  have g1 : decide ((k : Int) < 0) = false := decide_eq_false (by omega)
  have g2 : decide (rn ≤ k) = false := decide_eq_false (by omega)
  have g3 : decide (x < 0) = false := decide_eq_false (by omega)
  generalize (refIx (spotsL S.a) S.a s).map (Value.int .i64) = l1 at *
  generalize (bodyOf S.a s).map (Value.int .u64) = l2 at *
  generalize s.r.toNat = q1 at *
  generalize s.b.toNat = q2 at *
  generalize s.t = t at *
  have HX := Lib.hid hx
  have hb0 := below_new w (.cells #[.slice A n c, .slice RA rn rc, .slice PA pn pc, .slice HA hn hc] 28)
  have hb1 := hb0.alloc hb0.size (.cells #[.int .i64 0, .slice none 0 0, .slice none 0 0, .bool false] 55)
  have DS := (Blk.new w 28 #[.slice A n c, .slice RA rn rc, .slice PA pn pc, .slice HA hn hc]).alloc (.cells #[.int .i64 0, .slice none 0 0, .slice none 0 0, .bool false] 55)
  have DR := Blk.new (w.alloc (.cells #[.slice A n c, .slice RA rn rc, .slice PA pn pc, .slice HA hn hc] 28)) 55 #[.int .i64 0, .slice none 0 0, .slice none 0 0, .bool false]
  rw [World.size_alloc] at DR
  obtain ⟨s0, s1, s2, s3⟩ := DS.four
  clear hb0 z1 z2 z3 z4 hOK hx hO
  go_enter Tryz.func34, Tryz.ntmps34
  go_wp2_with fail
  refine (HCk.out _ ((hR.below hb1).more hb1.size)).mono ?_
  rintro e w2 ⟨rfl, hb2⟩
  have DS := DS.below hb2 DS.lt
  have DR2 := DR.below hb2 DR.lt
  have hb02 := below_step hb1 hb2
  clear s0 s1 s2 s3 hb1 hb2 DR
  obtain ⟨s0, s1, s2, s3⟩ := DS.four
  obtain ⟨ad, x', rfl, had, hx', cx⟩ := (hR.r.below hb02).num hk
  obtain rfl : x' = x := Option.some.inj (hx'.symm.trans HX.out)
  clear hx'
  go_upto_region 6 with fail
  go_cut [7, 8] from 9 to 52 (fun s7 s8 wc => ∃ (g : Nat) (A1 : Option Addr) (c1 : Nat) (A2 : Option Addr) (c2 : Nat), s7 = .int .i64 0 ∧ s8 = .pointer (some ⟨g, 0, none⟩) ∧ w2.heap.size ≤ g ∧ Blk wc g 55 #[.int .i64 t, .slice A1 q1 c1, .slice A2 q2 c2, .bool false] ∧
    wc.ownsRow w.heap.size 3 1 (.slice A1 q1 c1) q1 l1 ∧ wc.ownsRow w.heap.size 43 1 (.slice A2 q2 c2) q2 l2 ∧ Below w2.heap.size w2 wc)
  case first =>
    have hb := hb02.drew
    have hb9 := (Below.refl w2.heap.size w2).drew
    have DS := DS.drew
    obtain ⟨s0, s1, s2, s3⟩ := DS.four
    have cx : w2.drew.cell? (ad.add k) = some (.int .i64 x') := cx
    have hbz := (hb02.alloc hb02.size (.cells #[.int .i64 0, .slice none 0 0, .slice none 0 0, .bool false] 55)).drew
    have DSz := DS.alloc (.cells #[.int .i64 0, .slice none 0 0, .slice none 0 0, .bool false] 55)
    have DGz := (Blk.new w2 55 #[.int .i64 0, .slice none 0 0, .slice none 0 0, .bool false]).drew
    have cxz : (w2.alloc (.cells #[.int .i64 0, .slice none 0 0, .slice none 0 0, .bool false] 55)).drew.cell? (ad.add k) = some (.int .i64 x') := by
      refine (World.cell?_alloc_lt w2 _ (ad.add k) ?_).trans cx
      rw [block_of_add]
      have := hb02.size
      omega
    have hsz := hb02.size
    have ne1 : w2.heap.size ≠ w.heap.size := by have := DS.lt; have : w.heap.size < w2.heap.size := this; omega
    have ne2 : w2.heap.size ≠ (ad.add k).block := by rw [block_of_add]; omega
    have ne3 : w2.heap.size ≠ ad.block := by omega
    go_region_held3 (fun w' => w'.cell? ⟨w.heap.size, 0, none⟩ = some (.slice A n c) ∧ w'.cell? ⟨w.heap.size, 1, none⟩ = some (.slice (some ad) rn rc) ∧ w'.cell? (ad.add k) = some (.int .i64 x')) (go_keep)
      (first
        | (go_at_call 21; (with_reducible refine (HAt.out _ ((hR.a.below hb).more hb.size)).mono ?_); rintro e wA ⟨hbA, A1, c1, A2, c2, rfl, o1, o2⟩; have DS := DS.below hbA DS.lt; obtain ⟨s0, s1, s2, s3⟩ := DS.four; have cx := (hbA.cell (p := ad.add k) (by rw [block_of_add]; have := hb.size; omega)).trans cx)
        | (go_at_call 21; (with_reducible refine (HAt.out _ ((hR.a.below hbz).more hbz.size)).mono ?_); rintro e wA ⟨hbA, A1, c1, A2, c2, rfl, o1, o2⟩; have DS := DSz.below hbA DSz.lt; obtain ⟨s0, s1, s2, s3⟩ := DS.four; have cx := (hbA.cell (p := ad.add k) (by rw [block_of_add]; have := hbz.size; omega)).trans cxz; have DG := DGz.below hbA DGz.lt; obtain ⟨d0, d1, d2, d3⟩ := DG.four; have f0 := DG.frozen 0; have f1 := DG.frozen 1; have f2 := DG.frozen 2; have f3 := DG.frozen 3))
    all_goals
      go_wp2_with fail
      go_meet
    · exact ⟨_, A1, c1, A2, c2, rfl, rfl, hbA.size, Blk.new wA _ _, (own_mono o1 hb.size).alloc _, (own_mono o2 hb.size).alloc _, (hb9.trans hbA).alloc (hb9.trans hbA).size _⟩
    · have hq := ((below_new w2 (.cells #[.int .i64 0, .slice none 0 0, .slice none 0 0, .bool false] 55)).drew).trans (hbA.mono (by simp))
      exact ⟨_, A1, c1, A2, c2, rfl, rfl, Nat.le_refl _, (((DG.set_ 0 _).set_ 1 _).set_ 2 _).set_ 3 _, own_block4 (own_mono o1 hbz.size) DG (by decide) _ _ _ _, own_block4 (own_mono o2 hbz.size) DG (by decide) _ _ _ _, below_block4 hq (Nat.le_refl _) _ _ _ _⟩
  case rest =>
    obtain ⟨g, A1, c1, A2, c2, rfl, rfl, hg, DG, o1, o2, hbc⟩ := hcut
    have hb03 := below_step hb02 hbc
    have DS := DS.below hbc DS.lt
    have hrl := DR2.lt
    have DR := DR2.below hbc DR2.lt
    have cx := (hbc.cell (p := ad.add k) (by rw [block_of_add]; have := hb02.size; omega)).trans cx
    have ne1 : g ≠ w.heap.size + 1 := by have : w.heap.size + 1 < w2.heap.size := hrl; omega
    clear s0 s1 s2 s3
    obtain ⟨s0, s1, s2, s3⟩ := DS.four
    obtain ⟨d0, d1, d2, d3⟩ := DG.four
    obtain ⟨r0, r1, r2, r3⟩ := DR.four
    have f0 := DR.frozen 0
    have f1 := DR.frozen 1
    have f2 := DR.frozen 2
    have f3 := DR.frozen 3
    go_upto_region 7 with fail
    go_region
    all_goals
      go_wp2_with fail
    have z4 := (((DR.set_ 0 (.int .i64 t)).set_ 1 (.slice A1 q1 c1)).set_ 2 (.slice A2 q2 c2)).set_ 3 (.bool false)
    refine bodyPost_ret (v := .tuple #[.int .i64 x', .agg #[.int .i64 t, .slice A1 q1 c1, .slice A2 q2 c2, .bool false], .int .i64 0]) ?_ rfl ⟨(below_block4 hb03 (Nat.le_succ _) _ _ _ _).drew, A1, c1, A2, c2, rfl, (own_block4 o1 DR (by decide) _ _ _ _).drew, (own_block4 o2 DR (by decide) _ _ _ _).drew⟩
    obtain ⟨z0, z1, z2, z3⟩ := z4.drew.four
    simp only [results, Tryz.results34]
    go_simp

set_option maxRecDepth 100000 in
set_option maxHeartbeats 4000000 in
theorem object_bad (A : Option Addr) (n c : Nat) (RA : Option Addr) (rn rc : Nat) (PA : Option Addr) (pn pc : Nat) (HA : Option Addr) (hn hc : Nat) (S : St) (slot : Int) (w : World)
    (hR : StR w w.heap.size A n RA rn PA pn HA hn S) (hK : StK n c rn pn hn S) (hE : objE S slot ≠ 0) :
    Calls Tryz.prog 34 #[.agg #[.slice A n c, .slice RA rn rc, .slice PA pn pc, .slice HA hn hc], .int .i64 slot] w fun e w' => Below w.heap.size w w' ∧ e = .returned (.tuple #[.int .i64 0, .agg #[.int .i64 0, .slice none 0 0, .slice none 0 0, .bool false], .int .i64 (objE S slot)]) := by
  have HCk := Lib.hid (fun w hR => stcheck_any A n c RA rn rc PA pn pc HA hn hc S w hR hK)
  obtain ⟨-, hl, -, -⟩ := hR.lens
  have HX : Hid (objE S slot = if stE S ≠ 0 then stE S else if slot < 0 ∨ (rn : Int) ≤ slot then 5 else if S.r.getD slot.toNat 0 < 0 then 5 else 0) := by
    show _ = _
    rw [← hl]
    rfl
  have HE := Lib.hid hE
  generalize objE S slot = F at *
  generalize stE S = E at *
  have hb0 := below_new w (.cells #[.slice A n c, .slice RA rn rc, .slice PA pn pc, .slice HA hn hc] 28)
  have hb1 := hb0.alloc hb0.size (.cells #[.int .i64 0, .slice none 0 0, .slice none 0 0, .bool false] 55)
  have DS := (Blk.new w 28 #[.slice A n c, .slice RA rn rc, .slice PA pn pc, .slice HA hn hc]).alloc (.cells #[.int .i64 0, .slice none 0 0, .slice none 0 0, .bool false] 55)
  have DR := Blk.new (w.alloc (.cells #[.slice A n c, .slice RA rn rc, .slice PA pn pc, .slice HA hn hc] 28)) 55 #[.int .i64 0, .slice none 0 0, .slice none 0 0, .bool false]
  rw [World.size_alloc] at DR
  obtain ⟨s0, s1, s2, s3⟩ := DS.four
  have HL := Lib.hid hl
  clear hb0 hE hl
  go_enter Tryz.func34, Tryz.ntmps34
  go_wp2_with fail
  refine (HCk.out _ ((hR.below hb1).more hb1.size)).mono ?_
  rintro e w2 ⟨rfl, hb2⟩
  have DS := DS.below hb2 DS.lt
  have DR2 := DR.below hb2 DR.lt
  have hb02 := below_step hb1 hb2
  clear s0 s1 s2 s3 hb1 hb2 DR
  obtain ⟨s0, s1, s2, s3⟩ := DS.four
  obtain ⟨r0, r1, r2, r3⟩ := DR2.four
  have f0 := DR2.frozen 0
  have f1 := DR2.frozen 1
  have f2 := DR2.frozen 2
  have f3 := DR2.frozen 3
  have z4 := (((DR2.set_ 0 (.int .i64 0)).set_ 1 (.slice none 0 0)).set_ 2 (.slice none 0 0)).set_ 3 (.bool false)
  by_cases h0 : E = 0
  · subst h0
    have HX5 : Hid (F = 5) := by
      have h1 := HX.out
      have h2 := HE.out
      show _ = _
      rw [if_neg (by decide)] at h1
      split at h1
      · exact h1
      · split at h1
        · exact h1
        · exact absurd h1 h2
    by_cases h1 : slot < 0
    · have g1 : decide (slot < 0) = true := decide_eq_true h1
      clear h1
      go_wp2_with fail
      refine bodyPost_ret (v := .tuple #[.int .i64 0, .agg #[.int .i64 0, .slice none 0 0, .slice none 0 0, .bool false], .int .i64 F]) ?_ rfl ⟨below_block4 hb02 (Nat.le_succ _) _ _ _ _, rfl⟩
      obtain ⟨z0, z1, z2, z3⟩ := z4.four
      simp only [results, Tryz.results34]
      have HF := HX5.out
      subst HF
      go_simp
    · have g1 : decide (slot < 0) = false := decide_eq_false h1
      obtain ⟨k, rfl⟩ := Int.eq_ofNat_of_zero_le (show 0 ≤ slot by omega)
      by_cases h2 : rn ≤ k
      · have g2 : decide (rn ≤ k) = true := decide_eq_true h2
        have g2' : decide ((rn : Int) ≤ (k : Int)) = true := decide_eq_true (by omega)
        clear h1 h2
        go_wp2_with fail
        refine bodyPost_ret (v := .tuple #[.int .i64 0, .agg #[.int .i64 0, .slice none 0 0, .slice none 0 0, .bool false], .int .i64 F]) ?_ rfl ⟨below_block4 hb02 (Nat.le_succ _) _ _ _ _, rfl⟩
        obtain ⟨z0, z1, z2, z3⟩ := z4.four
        simp only [results, Tryz.results34]
        have HF := HX5.out
        subst HF
        go_simp
      · have g2 : decide (rn ≤ k) = false := decide_eq_false h2
        have g2' : decide ((rn : Int) ≤ (k : Int)) = false := decide_eq_false (by omega)
        have hk : k < rn := by omega
        obtain ⟨ad, x', rfl, had, hx', cx⟩ := (hR.r.below hb02).num hk
        have g3 : decide (x' < 0) = true := by
          have h3 := HX.out
          have h4 := HX5.out
          rw [if_neg (by decide), if_neg (by omega)] at h3
          rw [List.getD_eq_getElem?_getD, Int.toNat_natCast, hx'] at h3
          simp only [Option.getD_some] at h3
          split at h3
          · exact decide_eq_true ‹_›
          · exact absurd (h4.symm.trans h3) (by decide)
        clear h1 h2 hx'
        go_wp2_with fail
        refine bodyPost_ret (v := .tuple #[.int .i64 0, .agg #[.int .i64 0, .slice none 0 0, .slice none 0 0, .bool false], .int .i64 F]) ?_ rfl ⟨below_block4 hb02 (Nat.le_succ _) _ _ _ _, rfl⟩
        obtain ⟨z0, z1, z2, z3⟩ := z4.four
        simp only [results, Tryz.results34]
        have HF := HX5.out
        subst HF
        go_simp
  · have g1 : (E != 0) = true := by simpa using h0
    have HX5 : Hid (F = E) := by
      have h1 := HX.out
      rw [if_pos h0] at h1
      exact h1
    clear h0
    go_wp2_with fail
    refine bodyPost_ret (v := .tuple #[.int .i64 0, .agg #[.int .i64 0, .slice none 0 0, .slice none 0 0, .bool false], .int .i64 F]) ?_ rfl ⟨below_block4 hb02 (Nat.le_succ _) _ _ _ _, rfl⟩
    obtain ⟨z0, z1, z2, z3⟩ := z4.four
    simp only [results, Tryz.results34]
    have HF := HX5.out
    subst HF
    go_simp
end Go.Proofs.YtjdpcmmmdaffdaaGreat

/-
  package store: ref, body.
-/
namespace Go.Proofs.YtjdpcmmmdaffdaaGreat
open Go.RowKit

/-- The object of a root. -/
def spS (S : St) (slot : Int) : Spot := (spotAt (spotsL S.a) (S.r.getD slot.toNat 0)).getD ⟨0, 0, 0, 0, false⟩
def refE (S : St) (slot k other : Int) : Int := if objE S slot ≠ 0 then objE S slot else if k < 0 ∨ (spS S slot).r ≤ k then 4 else if other < 0 ∨ (S.r.length : Int) ≤ other then 5 else 0
def bodyE (S : St) (slot k : Int) : Int := if objE S slot ≠ 0 then objE S slot else if k < 0 ∨ (spS S slot).b ≤ k then 4 else 0
theorem spS_at {S : St} {k : Nat} {x : Int} {s : Spot} {i : Nat} (hx : S.r[k]? = some x) (hO : ObjAt S x s i) : spS S k = s := by
  unfold spS
  rw [List.getD_eq_getElem?_getD, Int.toNat_natCast, hx]
  simp only [Option.getD_some]
  rw [hO.spot]
  rfl
/-- All that is known of a root that names an object. -/
theorem root_obj {S : St} {slot : Int} (h : objE S slot = 0) : StOk S ∧ ∃ (k X : Nat) (s : Spot) (i : Nat), slot = k ∧ S.r[k]? = some (X : Int) ∧ ObjAt S X s i ∧ spS S slot = s ∧ X < S.a.length ∧ (X : Int) + s.long ≤ S.a.length := by
  obtain ⟨hOK, k, x, rfl, hx, h0⟩ := objE_ok h
  have hb := root_at (List.mem_of_getElem? hx) h0
  obtain ⟨s, i, hO⟩ := obj_at hOK hb
  obtain ⟨X, rfl⟩ := Int.eq_ofNat_of_zero_le h0
  have h1 := begs_lt hOK.arena (hOK.live _ hb)
  have h2 := hO.ok.fits
  rw [hO.loc] at h2
  exact ⟨hOK, k, X, s, i, rfl, hx, hO, spS_at hx hO, by omega, h2⟩

set_option maxRecDepth 100000 in
set_option maxHeartbeats 4000000 in
theorem body_ok (A : Option Addr) (n c : Nat) (RA : Option Addr) (rn rc : Nat) (PA : Option Addr) (pn pc : Nat) (HA : Option Addr) (hn hc : Nat) (S : St) (k X K : Nat) (s : Spot) (i : Nat) (w : World) (hR : StR w w.heap.size A n RA rn PA pn HA hn S) (hK : StK n c rn pn hn S) (hOK : StOk S) (hx : S.r[k]? = some (X : Int)) (hO : ObjAt S X s i) (hk : (K : Int) < s.b) :
    Calls Tryz.prog 36 #[.agg #[.slice A n c, .slice RA rn rc, .slice PA pn pc, .slice HA hn hc], .int .i64 k, .int .i64 K] w fun e w' => Below w.heap.size w w' ∧ e = .returned (.tuple #[.int .i64 (X + 1 + s.r.toNat + K : Nat), .int .i64 0]) := by
  have HOb := Lib.hid (fun w hR => object_ok A n c RA rn rc PA pn pc HA hn hc S k X s i w hR hK hOK hx (by omega) hO)
  have hfit := hO.ok.fits
  have hr0 := hO.ok.r0
  have hb0 := hO.ok.b0
  have hlen := (parse_ok (checkE_ok.1 hOK.arena).1).1
  rw [hO.loc] at hfit
  unfold Spot.long at hfit
  obtain ⟨-, hl2, -, -⟩ := hR.lens
  obtain ⟨q1, hq1⟩ : ∃ q : Nat, q = s.r.toNat := ⟨_, rfl⟩
  obtain ⟨q2, hq2⟩ : ∃ q : Nat, q = s.b.toNat := ⟨_, rfl⟩
  rw [← hq1, ← hq2] at HOb
  have g1 : decide ((K : Int) < 0) = false := decide_eq_false (by omega)
  have g2 : decide (q2 ≤ K) = false := decide_eq_false (by omega)
  obtain ⟨X1, hX1⟩ : ∃ y : Nat, y = X + 1 := ⟨_, rfl⟩
  obtain ⟨X2, hX2⟩ : ∃ y : Nat, y = X1 + q1 := ⟨_, rfl⟩
  obtain ⟨p, hp⟩ : ∃ y : Nat, y = X2 + K := ⟨_, rfl⟩
  have hw1 : IntKind.i64.wrap ((X : Int) + 1) = X1 := (IntWalk.i64_in _ (by omega)).trans (by omega)
  have hw2 : IntKind.i64.wrap ((X1 : Int) + q1) = X2 := (IntWalk.i64_in _ (by omega)).trans (by omega)
  have hw3 : IntKind.i64.wrap ((X2 : Int) + K) = p := (IntWalk.i64_in _ (by omega)).trans (by omega)
  have HP : X + 1 + s.r.toNat + K = p := by omega
  rw [HP]
  clear hX1 hX2 hp hq1 hq2 hfit hr0 hb0 hlen hl2 hk HP
  generalize s.t = t at *
  generalize (refIx (spotsL S.a) S.a s).map (Value.int .i64) = l1 at *
  generalize (bodyOf S.a s).map (Value.int .u64) = l2 at *
  have hb1 := below_new w (.cells #[.slice A n c, .slice RA rn rc, .slice PA pn pc, .slice HA hn hc] 28)
  have DS := Blk.new w 28 #[.slice A n c, .slice RA rn rc, .slice PA pn pc, .slice HA hn hc]
  obtain ⟨s0, s1, s2, s3⟩ := DS.four
  clear hO hOK hx
  go_enter Tryz.func36, Tryz.ntmps36
  go_wp2_with fail
  refine (HOb.out _ ((hR.below hb1).more hb1.size)).mono ?_
  rintro e w2 ⟨hb2, A1, c1, A2, c2, rfl, -, -⟩
  have hb02 := below_step hb1 hb2
  have hb03 := hb02.alloc hb02.size (.cells #[.int .i64 t, .slice A1 q1 c1, .slice A2 q2 c2, .bool false] 55)
  have DS := (DS.below hb2 DS.lt).alloc (.cells #[.int .i64 t, .slice A1 q1 c1, .slice A2 q2 c2, .bool false] 55)
  have DG := Blk.new w2 55 #[.int .i64 t, .slice A1 q1 c1, .slice A2 q2 c2, .bool false]
  clear s0 s1 s2 s3 HOb
  obtain ⟨s0, s1, s2, s3⟩ := DS.four
  obtain ⟨d0, d1, d2, d3⟩ := DG.four
  go_wp2_with fail
  go_ret2
  exact ⟨hb03, by first | rfl | (congr 3; omega)⟩

set_option maxRecDepth 100000 in
set_option maxHeartbeats 4000000 in
theorem body_bad (A : Option Addr) (n c : Nat) (RA : Option Addr) (rn rc : Nat) (PA : Option Addr) (pn pc : Nat) (HA : Option Addr) (hn hc : Nat) (S : St) (slot k : Int) (w : World) (hR : StR w w.heap.size A n RA rn PA pn HA hn S) (hK : StK n c rn pn hn S) (hE : bodyE S slot k ≠ 0) :
    Calls Tryz.prog 36 #[.agg #[.slice A n c, .slice RA rn rc, .slice PA pn pc, .slice HA hn hc], .int .i64 slot, .int .i64 k] w fun e w' => Below w.heap.size w w' ∧ e = .returned (.tuple #[.int .i64 0, .int .i64 (bodyE S slot k)]) := by
  obtain ⟨-, hl2, -, -⟩ := hR.lens
  have hb1 := below_new w (.cells #[.slice A n c, .slice RA rn rc, .slice PA pn pc, .slice HA hn hc] 28)
  have DS := Blk.new w 28 #[.slice A n c, .slice RA rn rc, .slice PA pn pc, .slice HA hn hc]
  obtain ⟨s0, s1, s2, s3⟩ := DS.four
  by_cases h0 : objE S slot = 0
  · obtain ⟨hOK, k', X, s, i, rfl, hx, hO, hsp, -, -⟩ := root_obj h0
    have HOb := Lib.hid (fun w hR => object_ok A n c RA rn rc PA pn pc HA hn hc S k' X s i w hR hK hOK hx (by omega) hO)
    have hr0 := hO.ok.r0
    have hb0 := hO.ok.b0
    obtain ⟨q1, HQ1⟩ : ∃ q : Nat, Hid (q = s.r.toNat) := ⟨_, rfl⟩
    obtain ⟨q2, HQ2⟩ : ∃ q : Nat, Hid (q = s.b.toNat) := ⟨_, rfl⟩
    rw [← HQ1.out, ← HQ2.out] at HOb
    generalize s.t = t at *
    generalize (refIx (spotsL S.a) S.a s).map (Value.int .i64) = l1 at *
    generalize (bodyOf S.a s).map (Value.int .u64) = l2 at *
    have HX := Lib.hid hE
    unfold bodyE at hE HX
    unfold bodyE
    rw [if_neg (by simp [h0]), hsp] at hE ⊢
    by_cases h1 : k < 0
    · rw [if_pos (.inl h1)]
      have g1 : decide (k < 0) = true := decide_eq_true h1
      clear h1
      clear hO hOK hx hsp hE HX
      go_enter Tryz.func36, Tryz.ntmps36
      go_wp2_with fail
      refine (HOb.out _ ((hR.below hb1).more hb1.size)).mono ?_
      rintro e w2 ⟨hb2, A1, c1, A2, c2, rfl, -, -⟩
      have hb02 := below_step hb1 hb2
      have hb03 := hb02.alloc hb02.size (.cells #[.int .i64 t, .slice A1 q1 c1, .slice A2 q2 c2, .bool false] 55)
      have DS := (DS.below hb2 DS.lt).alloc (.cells #[.int .i64 t, .slice A1 q1 c1, .slice A2 q2 c2, .bool false] 55)
      have DG := Blk.new w2 55 #[.int .i64 t, .slice A1 q1 c1, .slice A2 q2 c2, .bool false]
      clear s0 s1 s2 s3
      obtain ⟨s0, s1, s2, s3⟩ := DS.four
      obtain ⟨d0, d1, d2, d3⟩ := DG.four
      go_wp2_with fail
      go_ret2
      exact ⟨hb03, rfl⟩
    · have g1 : decide (k < 0) = false := decide_eq_false h1
      obtain ⟨K, rfl⟩ := Int.eq_ofNat_of_zero_le (show 0 ≤ k by omega)
      by_cases h2 : s.b ≤ K
      · rw [if_pos (.inr h2)]
        have g2 : decide (q2 ≤ K) = true := decide_eq_true (by have := HQ1.out; have := HQ2.out; omega)
        have g2' : decide ((q2 : Int) ≤ (K : Int)) = true := decide_eq_true (by have := HQ1.out; have := HQ2.out; omega)
        clear h1 h2
        clear hO hOK hx hsp hE HX
        go_enter Tryz.func36, Tryz.ntmps36
        go_wp2_with fail
        refine (HOb.out _ ((hR.below hb1).more hb1.size)).mono ?_
        rintro e w2 ⟨hb2, A1, c1, A2, c2, rfl, -, -⟩
        have hb02 := below_step hb1 hb2
        have hb03 := hb02.alloc hb02.size (.cells #[.int .i64 t, .slice A1 q1 c1, .slice A2 q2 c2, .bool false] 55)
        have DS := (DS.below hb2 DS.lt).alloc (.cells #[.int .i64 t, .slice A1 q1 c1, .slice A2 q2 c2, .bool false] 55)
        have DG := Blk.new w2 55 #[.int .i64 t, .slice A1 q1 c1, .slice A2 q2 c2, .bool false]
        clear s0 s1 s2 s3
        obtain ⟨s0, s1, s2, s3⟩ := DS.four
        obtain ⟨d0, d1, d2, d3⟩ := DG.four
        go_wp2_with fail
        go_ret2
        exact ⟨hb03, rfl⟩
      · rw [if_neg (by omega)] at hE
        exact absurd rfl hE
  · have HOb := Lib.hid (fun w hR => object_bad A n c RA rn rc PA pn pc HA hn hc S slot w hR hK h0)
    have hX : bodyE S slot k = objE S slot := by unfold bodyE; rw [if_pos h0]
    rw [hX]
    have g1 : (objE S slot != 0) = true := by simpa using h0
    generalize objE S slot = F at *
    clear hE hX h0
    go_enter Tryz.func36, Tryz.ntmps36
    go_wp2_with fail
    refine (HOb.out _ ((hR.below hb1).more hb1.size)).mono ?_
    rintro e w2 ⟨hb2, rfl⟩
    have hb02 := below_step hb1 hb2
    have hb03 := hb02.alloc hb02.size (.cells #[.int .i64 0, .slice none 0 0, .slice none 0 0, .bool false] 55)
    go_wp2_with fail
    go_ret2
    exact ⟨hb03, rfl⟩
end Go.Proofs.YtjdpcmmmdaffdaaGreat

/-
  Plain law: a word of a root's object is set. No program stands here.
-/
namespace Go.Proofs.YtjdpcmmmdaffdaaGreat
open Go.RowKit

theorem refE_zero {S : St} {slot k other : Int} (h : refE S slot k other = 0) : StOk S ∧ ∃ (k' X K O : Nat) (s : Spot) (i : Nat), slot = k' ∧ k = K ∧ other = O ∧ S.r[k']? = some (X : Int) ∧ ObjAt S X s i ∧ (K : Int) < s.r ∧ O < S.r.length := by
  unfold refE at h
  split at h
  · rename_i h0; exact absurd h h0
  · rename_i h0
    obtain ⟨hOK, k', X, s, i, rfl, hx, hO, hsp, -, -⟩ := root_obj (by simpa using h0)
    rw [hsp] at h
    split at h
    · cases h
    · split at h
      · cases h
      · exact ⟨hOK, k', X, k.toNat, other.toNat, s, i, rfl, by omega, by omega, hx, hO, by omega, by omega⟩
theorem bodyE_zero {S : St} {slot k : Int} (h : bodyE S slot k = 0) : StOk S ∧ ∃ (k' X K : Nat) (s : Spot) (i : Nat), slot = k' ∧ k = K ∧ S.r[k']? = some (X : Int) ∧ ObjAt S X s i ∧ (K : Int) < s.b := by
  unfold bodyE at h
  split at h
  · rename_i h0; exact absurd h h0
  · rename_i h0
    obtain ⟨hOK, k', X, s, i, rfl, hx, hO, hsp, -, -⟩ := root_obj (by simpa using h0)
    rw [hsp] at h
    split at h
    · cases h
    · exact ⟨hOK, k', X, k.toNat, s, i, rfl, by omega, hx, hO, by omega⟩
theorem place_begs {S : List Spot} {y : Int} (h : y = -1 ∨ y ∈ begsL S) : (placeF S (y + 1)).isSome = true := by
  rw [placeC_some]
  rcases h with rfl | h
  · exact .inl rfl
  · right
    obtain ⟨s, hs, rfl⟩ := List.mem_map.1 h
    obtain ⟨h1, h2⟩ := List.mem_filter.1 hs
    refine ⟨s, h1, ?_⟩
    unfold isPlace
    rw [h2]
    simp
/-- A root is nothing or an object. -/
theorem root_val {S : St} (hS : StOk S) {y : Int} (hy : y ∈ S.r) : (y = -1 ∨ y ∈ begsL (spotsL S.a)) ∧ -1 ≤ y ∧ y ≤ 256 := by
  obtain ⟨h1, h2, h3, h4⟩ := rootE_ok hS.roots
  have h5 := h4 y hy
  refine ⟨?_, by omega, by omega⟩
  by_cases h0 : 0 ≤ y
  · exact .inr (hS.live _ (root_at hy h0))
  · exact .inl (by omega)
/-- A store whose arena has the same objects is right. -/
theorem StOk.same {S : St} (h : StOk S) {a' : List Int} (hc : checkE a' = 0) (hl : a'.length = S.a.length) (hs : spotsL a' = spotsL S.a) : StOk ⟨a', S.r, S.p, S.l⟩ :=
  ⟨hc, by show rootE S.r a'.length = 0; rw [hl]; exact h.roots, h.pins, h.hands, fun x hx => by show x ∈ begsL (spotsL a'); rw [hs]; exact h.live x hx⟩
theorem ObjAt.same {S S' : St} {x : Int} {s : Spot} {i : Nat} (h : ObjAt S x s i) (hs : spotsL S'.a = spotsL S.a) (hS : StOk S') : ObjAt S' x s i := by
  refine ⟨?_, by rw [hs]; exact h.at_, by rw [hs]; exact h.spot, ?_, h.loc, h.free⟩
  · have := h.ix
    unfold atIx at this ⊢
    rw [hs]
    exact this
  · exact ((parse_mem (parse_ok (checkE_ok.1 hS.arena).1).2) s (by rw [hs]; exact List.mem_of_getElem? h.at_)).1
theorem put_law {S : St} (hS : StOk S) {X K : Nat} {s : Spot} {i : Nat} (hO : ObjAt S X s i) (hk : (K : Int) < s.b) (v : Int) :
    StOk ⟨S.a.set (X + 1 + s.r.toNat + K) v, S.r, S.p, S.l⟩ ∧ PaySet S.a (S.a.set (X + 1 + s.r.toNat + K) v) s (s.r.toNat + K) v := by
  have hr := hO.ok.r0
  have hm := List.mem_of_getElem? hO.at_
  have h1 := pay_set (checkE_ok.1 hS.arena).1 hm (j := s.r.toNat + K) (by omega) v
  have hloc : s.loc.toNat = X := by rw [hO.loc]; rfl
  rw [hloc, ← Nat.add_assoc] at h1
  exact ⟨hS.same (h1.check hS.arena hm (fun h => by omega)) h1.len h1.spots, h1⟩
theorem set_law {S : St} (hS : StOk S) {X K : Nat} {s : Spot} {i : Nat} (hO : ObjAt S X s i) (hk : (K : Int) < s.r) {y : Int} (hy : y = -1 ∨ y ∈ begsL (spotsL S.a)) :
    StOk ⟨S.a.set (X + 1 + K) (y + 1), S.r, S.p, S.l⟩ ∧ PaySet S.a (S.a.set (X + 1 + K) (y + 1)) s K (y + 1) := by
  have hb := hO.ok.b0
  have hm := List.mem_of_getElem? hO.at_
  have h1 := pay_set (checkE_ok.1 hS.arena).1 hm (j := K) (by omega) (y + 1)
  have hloc : s.loc.toNat = X := by rw [hO.loc]; rfl
  rw [hloc] at h1
  exact ⟨hS.same (h1.check hS.arena hm (fun _ => place_begs hy)) h1.len h1.spots, h1⟩
theorem wf_set {a : List Int} (h : ∀ x ∈ a, (Lit.int .u64 x).wf = true) {p : Nat} {v : Int} (hv : (Lit.int .u64 v).wf = true) : ∀ x ∈ a.set p v, (Lit.int .u64 x).wf = true := fun x hx => by
  rcases List.mem_or_eq_of_mem_set hx with hx | rfl
  · exact h x hx
  · exact hv
end Go.Proofs.YtjdpcmmmdaffdaaGreat

/-
  package store: Get, Put, Set, Ref.
-/
namespace Go.Proofs.YtjdpcmmmdaffdaaGreat
open Go.RowKit

set_option maxRecDepth 100000 in
set_option maxHeartbeats 4000000 in
theorem get_ok (A : Option Addr) (n c : Nat) (RA : Option Addr) (rn rc : Nat) (PA : Option Addr) (pn pc : Nat) (HA : Option Addr) (hn hc : Nat) (S : St) (k X K v : Nat) (s : Spot) (i : Nat) (w : World) (hR : StR w w.heap.size A n RA rn PA pn HA hn S) (hK : StK n c rn pn hn S) (hOK : StOk S) (hx : S.r[k]? = some (X : Int)) (hO : ObjAt S X s i) (hk : (K : Int) < s.b) (hv : S.a[X + 1 + s.r.toNat + K]? = some (v : Int)) :
    Calls Tryz.prog 13 #[.agg #[.slice A n c, .slice RA rn rc, .slice PA pn pc, .slice HA hn hc], .int .i64 k, .int .i64 K] w fun e w' => Below w.heap.size w w' ∧ e = .returned (.tuple #[.int .u64 v, .int .i64 0]) := by
  obtain ⟨z1, z2, z3, z4⟩ := hR.lens
  have HB := Lib.hid (fun w hR => body_ok A n c RA rn rc PA pn pc HA hn hc S k X K s i w hR hK hOK hx hO hk)
  generalize X + 1 + s.r.toNat + K = p at *
  have hpn : p < n := by have := (List.getElem?_eq_some_iff.1 hv).1; omega
  have HV := Lib.hid hv
  clear hv hO hOK hx hk z1 z2 z3 z4
  have hb1 := below_new w (.cells #[.slice A n c, .slice RA rn rc, .slice PA pn pc, .slice HA hn hc] 28)
  have DS := Blk.new w 28 #[.slice A n c, .slice RA rn rc, .slice PA pn pc, .slice HA hn hc]
  obtain ⟨s0, s1, s2, s3⟩ := DS.four
  go_enter Tryz.func13, Tryz.ntmps13
  go_wp2_with fail
  refine (HB.out _ ((hR.below hb1).more hb1.size)).mono ?_
  rintro e w2 ⟨hb2, rfl⟩
  have hb02 := below_step hb1 hb2
  have DS2 := DS.below hb2 DS.lt
  clear s0 s1 s2 s3
  obtain ⟨s0, s1, s2, s3⟩ := DS2.four
  obtain ⟨ad, u, rfl, had, hu, cu⟩ := (hR.a.below hb02).num hpn
  obtain rfl : u = v := Option.some.inj (hu.symm.trans HV.out)
  clear hu
  go_wp2_with fail
  go_ret2
  exact ⟨hb02, rfl⟩

set_option maxRecDepth 100000 in
set_option maxHeartbeats 4000000 in
theorem get_bad (A : Option Addr) (n c : Nat) (RA : Option Addr) (rn rc : Nat) (PA : Option Addr) (pn pc : Nat) (HA : Option Addr) (hn hc : Nat) (S : St) (slot k : Int) (w : World) (hR : StR w w.heap.size A n RA rn PA pn HA hn S) (hK : StK n c rn pn hn S) (hE : bodyE S slot k ≠ 0) :
    Calls Tryz.prog 13 #[.agg #[.slice A n c, .slice RA rn rc, .slice PA pn pc, .slice HA hn hc], .int .i64 slot, .int .i64 k] w fun e w' => Below w.heap.size w w' ∧ e = .returned (.tuple #[.int .u64 0, .int .i64 (bodyE S slot k)]) := by
  have HB := Lib.hid (fun w hR => body_bad A n c RA rn rc PA pn pc HA hn hc S slot k w hR hK hE)
  have g1 : (bodyE S slot k != 0) = true := by simpa using hE
  generalize bodyE S slot k = F at *
  have hb1 := below_new w (.cells #[.slice A n c, .slice RA rn rc, .slice PA pn pc, .slice HA hn hc] 28)
  have DS := Blk.new w 28 #[.slice A n c, .slice RA rn rc, .slice PA pn pc, .slice HA hn hc]
  obtain ⟨s0, s1, s2, s3⟩ := DS.four
  go_enter Tryz.func13, Tryz.ntmps13
  go_wp2_with fail
  refine (HB.out _ ((hR.below hb1).more hb1.size)).mono ?_
  rintro e w2 ⟨hb2, rfl⟩
  have hb02 := below_step hb1 hb2
  clear s0 s1 s2 s3
  go_wp2_with fail
  go_ret2
  exact ⟨hb02, rfl⟩

end Go.Proofs.YtjdpcmmmdaffdaaGreat

/-
  package pin: find, Many; slices.BinarySearchFunc at pins; cmp.Compare at int.
-/
namespace Go.Proofs.YtjdpcmmmdaffdaaGreat
open Go.RowKit

set_option maxHeartbeats 400000 in
theorem isNaN_intP (x : Int) (w : World) : Calls Tryz.prog 128 #[.int .i64 x] w fun e w' => e = .returned (.bool false) ∧ w' = w := by
  go_enter Tryz.func128, Tryz.ntmps128
  go_wp2
  go_ret
  exact ⟨by first | rfl | simp, rfl⟩
def cmpI (x y : Int) : Int := if x < y then -1 else if y < x then 1 else 0
set_option maxHeartbeats 400000 in
theorem cmp_int (x y : Int) (w : World) : Calls Tryz.prog 108 #[.int .i64 x, .int .i64 y] w fun e w' => e = .returned (.int .i64 (cmpI x y)) ∧ w' = w := by
  have H := Lib.hid isNaN_intP
  unfold cmpI
  by_cases h1 : x < y
  · have g1 : decide (x < y) = true := decide_eq_true h1
    rw [if_pos h1]
    go_enter Tryz.func108, Tryz.ntmps108
    go_wp2_with fail
    refine (H.out _ _).mono ?_
    rintro e w1 ⟨rfl, rfl⟩
    go_wp2_with fail
    refine (H.out _ _).mono ?_
    rintro e w1 ⟨rfl, rfl⟩
    go_wp2
    go_ret
    exact ⟨rfl, rfl⟩
  · have g1 : decide (x < y) = false := decide_eq_false h1
    rw [if_neg h1]
    by_cases h2 : y < x
    · have g2 : decide (y < x) = true := decide_eq_true h2
      rw [if_pos h2]
      go_enter Tryz.func108, Tryz.ntmps108
      go_wp2_with fail
      refine (H.out _ _).mono ?_
      rintro e w1 ⟨rfl, rfl⟩
      go_wp2_with fail
      refine (H.out _ _).mono ?_
      rintro e w1 ⟨rfl, rfl⟩
      go_wp2
      go_ret
      exact ⟨rfl, rfl⟩
    · have g2 : decide (y < x) = false := decide_eq_false h2
      rw [if_neg h2]
      go_enter Tryz.func108, Tryz.ntmps108
      go_wp2_with fail
      refine (H.out _ _).mono ?_
      rintro e w1 ⟨rfl, rfl⟩
      go_wp2_with fail
      refine (H.out _ _).mono ?_
      rintro e w1 ⟨rfl, rfl⟩
      go_wp2
      go_ret
      exact ⟨rfl, rfl⟩
set_option maxHeartbeats 400000 in
theorem find1_any (x y at_ : Int) (w : World) : Calls Tryz.prog 107 #[.agg #[.int .i64 x, .int .i64 y], .int .i64 at_] w fun e w' => e = .returned (.int .i64 (cmpI x at_)) ∧ Below w.heap.size w w' := by
  have D0 := Blk.new w 84 #[.int .i64 x, .int .i64 y]
  have d0 := D0.cell 0
  simp only [List.getElem?_toArray, List.getElem?_cons_zero, List.getElem?_cons_succ] at d0
  have hbn := below_new w (.cells #[.int .i64 x, .int .i64 y] 84)
  have H := Lib.hid (fun w => cmp_int x at_ w)
  generalize cmpI x at_ = q at *
  go_enter Tryz.func107, Tryz.ntmps107
  go_wp2_with fail
  refine (H.out _).mono ?_
  rintro e w1 ⟨rfl, rfl⟩
  go_wp2
  go_ret
  exact ⟨rfl, hbn⟩

/-- Where a word's pin stands, or would. -/
structure PlaceOf (l : List Rn) (x : Int) (i : Nat) : Prop where
  le : i ≤ l.length
  low : ∀ (k : Nat) (y : Rn), k < i → l[k]? = some y → y.loc < x
  high : ∀ (k : Nat) (y : Rn), i ≤ k → l[k]? = some y → x ≤ y.loc
theorem PlaceOf.unique {l : List Rn} {x : Int} {i j : Nat} (h : PlaceOf l x i) (h' : PlaceOf l x j) : i = j := by
  rcases Nat.lt_trichotomy i j with h1 | h1 | h1
  · have h2 : i < l.length := by have := h'.le; omega
    have a := h'.low i _ h1 (List.getElem?_eq_getElem h2)
    have b := h.high i _ (Nat.le_refl _) (List.getElem?_eq_getElem h2)
    omega
  · exact h1
  · have h2 : j < l.length := by have := h.le; omega
    have a := h.low j _ h1 (List.getElem?_eq_getElem h2)
    have b := h'.high j _ (Nat.le_refl _) (List.getElem?_eq_getElem h2)
    omega
def hasAt (l : List Rn) (x : Int) (i : Nat) : Bool := (l[i]?).any (fun y => decide (y.loc = x))

set_option maxRecDepth 100000 in
set_option maxHeartbeats 2000000 in
theorem bsearch_any (A : Option Addr) (n c : Nat) (l : List Rn) (x : Int) (w : World) (hr : Reads w w.heap.size 2 A n (runsC l)) (hn : n ≤ 1000000) (hs : l.Pairwise (fun x y => x.loc < y.loc)) :
    Calls Tryz.prog 106 #[.slice A n c, .int .i64 x, .func (.func 107) #[] #[]] w fun e w' => Below w.heap.size w w' ∧ ∃ i : Nat, PlaceOf l x i ∧ e = .returned (.tuple #[.int .i64 i, .bool (hasAt l x i)]) := by
  have hl : l.length = n := by have := hr.1; rw [runsC_length] at this; omega
  have HL := Lib.hid hl
  have HS : Hid (∀ (i j : Nat) (y z : Rn), i ≤ j → l[i]? = some y → l[j]? = some z → y.loc ≤ z.loc) := by
    intro i j y z hij hy hz
    obtain ⟨q1, rfl⟩ := List.getElem?_eq_some_iff.1 hy
    obtain ⟨q2, rfl⟩ := List.getElem?_eq_some_iff.1 hz
    rcases Nat.lt_or_ge i j with h | h
    · have := List.pairwise_iff_getElem.1 hs i j q1 q2 h; omega
    · have : i = j := by omega
      subst this
      exact Int.le_refl _
  have hcf := fun (x y : Value) (w : World) => (plain_of (fn := Tryz.f107) Tryz.func107 (by kernel_rfl) (by kernel_rfl)) #[x, y] w
  have HC := Lib.hid find1_any
  clear hl hs
  go_enter Tryz.func106, Tryz.ntmps106
  go_wp2
  go_loopw [9, 10, 11] (fun u v _ wr => ∃ lo hi : Nat, lo ≤ hi ∧ hi ≤ n ∧ u = .int .i64 lo ∧ v = .int .i64 hi ∧ Hid (∀ (k : Nat) (y : Rn), k < lo → l[k]? = some y → y.loc < x) ∧ Hid (∀ (k : Nat) (y : Rn), hi ≤ k → l[k]? = some y → x ≤ y.loc) ∧ Below w.heap.size w wr) (fun u v _ _ => (intOf v).toNat - (intOf u).toNat)
  case atStart => exact ⟨0, n, Nat.zero_le _, Nat.le_refl _, rfl, rfl, (by intro k y h; omega), (by
    intro k y h hy
    have := (List.getElem?_eq_some_iff.1 hy).1
    have := HL.out
    omega), Below.refl _ _⟩
  case round =>
    obtain ⟨lo, hi, hlh, hhn, rfl, rfl, HLo, HHi, hb⟩ := hrel
    by_cases hlt : lo < hi
    · obtain ⟨h, hh⟩ : ∃ h, h = (lo + hi) / 2 := ⟨_, rfl⟩
      obtain ⟨s, hs⟩ : ∃ s, s = lo + hi := ⟨_, rfl⟩
      have hh2 : h = s / 2 := by rw [hh, hs]
      have hlo : lo ≤ h := by omega
      have hhi : h < hi := by omega
      have hhn2 : h < n := by omega
      have w1 : IntKind.i64.wrap ((lo : Int) + hi) = (s : Int) := by rw [IntWalk.i64_in _ (by omega)]; omega
      have w2 : IntKind.u64.wrap (s : Int) = (s : Int) := by simp [IntKind.wrap, IntKind.signed, IntKind.bits]; omega
      have w3 : (s : Int) / 2 = (h : Int) := by omega
      have w4 : IntKind.i64.wrap (h : Int) = (h : Int) := IntWalk.i64_in _ (by omega)
      have w5 : IntKind.i64.wrap ((h : Int) + 1) = (h : Int) + 1 := IntWalk.i64_in _ (by omega)
      have w6 : IntKind.u64.wrap (h : Int) = (h : Int) := by simp [IntKind.wrap, IntKind.signed, IntKind.bits]; omega
      have hh3 : s / 2 = h := hh2.symm
      have hsl : s ≤ 2000000 := by omega
      obtain ⟨ad, y, rfl, had, hy, c0, c1⟩ := (hr.below hb).run hhn2
      have HY := Lib.hid hy
      obtain ⟨yl, yn⟩ := y
      have HC1 := Lib.hid (HC.out yl yn x wr)
      dsimp only at c0 c1
      clear hh hs hh2 hy
      by_cases hc : yl < x
      · have hcv : cmpI yl x = -1 := by unfold cmpI; rw [if_pos hc]
        rw [hcv] at HC1
        have HLo2 : Hid (∀ (k : Nat) (z : Rn), k < h + 1 → l[k]? = some z → z.loc < x) := fun k z hk hz => by
          have := HS.out k h z ⟨yl, yn⟩ (by omega) hz HY.out
          dsimp only at this
          omega
        clear hcv
        go_wp2_with fail
        refine HC1.out.mono ?_
        rintro e w7 ⟨rfl, hb7⟩
        have hb2 := hb.trans (hb7.mono hb.size)
        go_wp2
        go_roundw
        case rel => exact ⟨h + 1, hi, by omega, hhn, by go_num, rfl, HLo2, HHi, hb2⟩
        case measure => simp [intOf]; omega
      · have hcv : decide (cmpI yl x < 0) = false := by unfold cmpI; rw [if_neg hc]; split <;> decide
        have HHi2 : Hid (∀ (k : Nat) (z : Rn), h ≤ k → l[k]? = some z → x ≤ z.loc) := fun k z hk hz => by
          have := HS.out h k ⟨yl, yn⟩ z hk HY.out hz
          dsimp only at this
          omega
        generalize cmpI yl x = q at *
        go_wp2_with fail
        refine HC1.out.mono ?_
        rintro e w7 ⟨rfl, hb7⟩
        have hb2 := hb.trans (hb7.mono hb.size)
        go_wp2
        go_roundw
        case rel => exact ⟨lo, h, hlo, by omega, rfl, by go_num, HLo, HHi2, hb2⟩
        case measure => simp [intOf]; omega
    · have hle : hi = lo := by omega
      subst hle
      have HPl : Hid (PlaceOf l x hi) := ⟨by rw [HL.out]; exact hhn, HLo.out, HHi.out⟩
      have g0 : decide (hi < hi) = false := decide_eq_false (by omega)
      by_cases hend : hi < n
      · obtain ⟨ad, y, rfl, had, hy, c0, c1⟩ := (hr.below hb).run hend
        obtain ⟨yl, yn⟩ := y
        have HC1 := Lib.hid (HC.out yl yn x wr)
        dsimp only at c0 c1
        have g1 : decide (hi < n) = true := decide_eq_true hend
        have hge : x ≤ yl := HHi.out hi ⟨yl, yn⟩ (Nat.le_refl _) hy
        have hcv : (cmpI yl x == 0) = hasAt l x hi := by
          unfold hasAt cmpI
          rw [hy, if_neg (by omega)]
          by_cases h2 : x < yl
          · rw [if_pos h2]; simp; omega
          · rw [if_neg h2]; simp; omega
        have HCV := Lib.hid hcv
        clear hy hge hcv
        generalize cmpI yl x = q at *
        go_wp2_with fail
        refine HC1.out.mono ?_
        rintro e w7 ⟨rfl, hb7⟩
        have hb2 := hb.trans (hb7.mono hb.size)
        go_wp2
        go_ret2
        exact ⟨hb2, hi, HPl.out, by rw [← HCV.out]; rfl⟩
      · have g1 : decide (hi < n) = false := decide_eq_false hend
        have HCV : Hid (hasAt l x hi = false) := by
          show _ = _
          unfold hasAt
          rw [List.getElem?_eq_none (by rw [HL.out]; omega)]
          rfl
        go_wp2
        go_ret2
        exact ⟨hb, hi, HPl.out, by rw [HCV.out]; rfl⟩
end Go.Proofs.YtjdpcmmmdaffdaaGreat

/-
  Plain law: pins that are added and let go. No program stands here.
-/
namespace Go.Proofs.YtjdpcmmmdaffdaaGreat
open Go.RowKit

def findE (l : List Rn) (x : Int) : Int := if pinE l ≠ 0 then pinE l else if thereB x = true then 0 else 4
theorem findE_zero {l : List Rn} {x : Int} : findE l x = 0 ↔ PinsOk l ∧ thereB x = true := by
  unfold findE
  rw [← pinE_ok]
  by_cases h : pinE l = 0
  · rw [if_neg (by simp [h])]
    by_cases h2 : thereB x = true
    · rw [if_pos h2]; simp [h, h2]
    · rw [if_neg h2]; simp [h2]
  · rw [if_pos h]; simp [h]
theorem findE_same {l l' : List Rn} (h : PinsOk l) (h' : PinsOk l') (x : Int) : findE l x = findE l' x := by
  unfold findE
  rw [pinE_ok.2 h, pinE_ok.2 h']
def countP (l : List Rn) (x : Int) : Int := ((l.find? (fun y => decide (y.loc = x))).map (·.len)).getD 0
theorem PinsOk.same {l : List Rn} (h : PinsOk l) {y z : Rn} (hy : y ∈ l) (hz : z ∈ l) (e : y.loc = z.loc) : y = z := by
  obtain ⟨i, hi⟩ := List.mem_iff_getElem?.1 hy
  obtain ⟨j, hj⟩ := List.mem_iff_getElem?.1 hz
  obtain ⟨q1, rfl⟩ := List.getElem?_eq_some_iff.1 hi
  obtain ⟨q2, rfl⟩ := List.getElem?_eq_some_iff.1 hj
  rcases Nat.lt_trichotomy i j with h1 | h1 | h1
  · have := List.pairwise_iff_getElem.1 h.rise i j q1 q2 h1; omega
  · subst h1; rfl
  · have := List.pairwise_iff_getElem.1 h.rise j i q2 q1 h1; omega
theorem countP_some {l : List Rn} (h : PinsOk l) {y : Rn} (hy : y ∈ l) : countP l y.loc = y.len := by
  unfold countP
  cases hf : l.find? (fun z => decide (z.loc = y.loc)) with
  | none => exact absurd (List.find?_eq_none.1 hf y hy) (by simp)
  | some z =>
    have h1 := List.find?_some hf
    have h2 := List.mem_of_find?_eq_some hf
    simp only [decide_eq_true_eq] at h1
    rw [h.same h2 hy h1]
    rfl
theorem countP_none {l : List Rn} {x : Int} (h : ∀ y ∈ l, y.loc ≠ x) : countP l x = 0 := by
  unfold countP
  rw [List.find?_eq_none.2 (fun y hy => by simpa using h y hy)]
  rfl
theorem place_none {l : List Rn} {x : Int} {i : Nat} (hs : l.Pairwise (fun x y => x.loc < y.loc)) (h : PlaceOf l x i) (hh : hasAt l x i = false) : ∀ y ∈ l, y.loc ≠ x := by
  intro y hy e
  obtain ⟨j, hj⟩ := List.mem_iff_getElem?.1 hy
  rcases Nat.lt_trichotomy j i with h1 | h1 | h1
  · have := h.low j y h1 hj; omega
  · subst h1
    unfold hasAt at hh
    rw [hj] at hh
    simp [e] at hh
  · obtain ⟨q, rfl⟩ := List.getElem?_eq_some_iff.1 hj
    have hi : i < l.length := by omega
    have h2 := h.high i _ (Nat.le_refl _) (List.getElem?_eq_getElem hi)
    have h3 := List.pairwise_iff_getElem.1 hs i j hi q h1
    omega
theorem hasAt_some {l : List Rn} {x : Int} {i : Nat} (h : hasAt l x i = true) : ∃ y, l[i]? = some y ∧ y.loc = x := by
  unfold hasAt at h
  cases hl : l[i]? with
  | none => rw [hl] at h; cases h
  | some y => rw [hl] at h; exact ⟨y, rfl, by simpa using h⟩
theorem bad_no {x y : Int} : pinBad ⟨x, y⟩ = false ↔ (thereB x = true ∧ 1 ≤ y ∧ y ≤ 1000000) := by
  unfold pinBad thereB
  simp only [Bool.or_eq_false_iff, Bool.not_eq_false', decide_eq_false_iff_not, and_assoc]
  constructor
  · rintro ⟨a, b, c⟩; exact ⟨a, by omega, by omega⟩
  · rintro ⟨a, b, c⟩; exact ⟨a, by omega, by omega⟩

/-- One more. -/
def moreP (l : List Rn) (x : Int) (i : Nat) (v : Int) : List Rn := if hasAt l x i = true then l.set i ⟨x, v⟩ else l.take i ++ ⟨x, v⟩ :: l.drop i
theorem moreP_mem {l : List Rn} {x v : Int} {i : Nat} (hi : PlaceOf l x i) (hs : l.Pairwise (fun x y => x.loc < y.loc)) (z : Rn) : z ∈ moreP l x i v ↔ z = ⟨x, v⟩ ∨ z ∈ l ∧ z.loc ≠ x := by
  unfold moreP
  by_cases h : hasAt l x i = true
  · obtain ⟨y, hy, hyx⟩ := hasAt_some h
    obtain ⟨q, rfl⟩ := List.getElem?_eq_some_iff.1 hy
    rw [if_pos h]
    rw [List.mem_iff_getElem?]
    constructor
    · rintro ⟨j, hj⟩
      by_cases hji : j = i
      · subst hji
        rw [List.getElem?_set_self q] at hj
        exact .inl (by injection hj with hj; exact hj.symm)
      · rw [List.getElem?_set_ne (by omega)] at hj
        obtain ⟨q2, rfl⟩ := List.getElem?_eq_some_iff.1 hj
        refine .inr ⟨List.getElem_mem q2, fun e => ?_⟩
        rcases Nat.lt_or_ge j i with h1 | h1
        · have := List.pairwise_iff_getElem.1 hs j i q2 q h1; omega
        · have := List.pairwise_iff_getElem.1 hs i j q q2 (by omega); omega
    · rintro (rfl | ⟨hz, hzx⟩)
      · exact ⟨i, List.getElem?_set_self q⟩
      · obtain ⟨j, hj⟩ := List.mem_iff_getElem?.1 hz
        refine ⟨j, ?_⟩
        rw [List.getElem?_set_ne ?_]
        · exact hj
        · rintro rfl
          obtain ⟨_, rfl⟩ := List.getElem?_eq_some_iff.1 hj
          exact hzx hyx
  · rw [if_neg h]
    have hn := place_none hs hi (by simpa using h)
    simp only [List.mem_append, List.mem_cons]
    have htd : z ∈ l ↔ z ∈ l.take i ∨ z ∈ l.drop i := by rw [← List.mem_append, List.take_append_drop]
    constructor
    · rintro (h1 | rfl | h1)
      · exact .inr ⟨htd.2 (.inl h1), hn z (htd.2 (.inl h1))⟩
      · exact .inl rfl
      · exact .inr ⟨htd.2 (.inr h1), hn z (htd.2 (.inr h1))⟩
    · rintro (rfl | ⟨h1, -⟩)
      · exact .inr (.inl rfl)
      · rcases htd.1 h1 with h2 | h2
        · exact .inl h2
        · exact .inr (.inr h2)
theorem set_rise {l : List Rn} {i : Nat} {y : Rn} {v : Int} (hs : l.Pairwise (fun x y => x.loc < y.loc)) (hy : l[i]? = some y) : (l.set i ⟨y.loc, v⟩).Pairwise (fun x y => x.loc < y.loc) := by
  obtain ⟨q, rfl⟩ := List.getElem?_eq_some_iff.1 hy
  rw [List.pairwise_iff_getElem]
  intro a b ha hb hab
  rw [List.getElem_set, List.getElem_set]
  simp only [List.length_set] at ha hb
  have h := List.pairwise_iff_getElem.1 hs a b ha hb hab
  split
  · rename_i h1
    subst h1
    split
    · omega
    · exact h
  · split
    · rename_i h2
      subst h2
      exact h
    · exact h
theorem ins_rise {l : List Rn} {i : Nat} {x v : Int} (hs : l.Pairwise (fun x y => x.loc < y.loc)) (hi : PlaceOf l x i) (hn : ∀ y ∈ l, y.loc ≠ x) : (l.take i ++ ⟨x, v⟩ :: l.drop i).Pairwise (fun x y => x.loc < y.loc) := by
  have hs2 : (l.take i ++ l.drop i).Pairwise (fun x y => x.loc < y.loc) := by rw [List.take_append_drop]; exact hs
  rw [List.pairwise_append] at hs2 ⊢
  obtain ⟨h1, h2, h3⟩ := hs2
  refine ⟨h1, List.pairwise_cons.2 ⟨fun y hy => ?_, h2⟩, fun a ha b hb => ?_⟩
  · obtain ⟨k, hk⟩ := List.mem_iff_getElem?.1 hy
    rw [List.getElem?_drop] at hk
    have := hi.high (i + k) y (by omega) hk
    have := hn y (List.mem_of_mem_drop hy)
    dsimp only
    omega
  · rcases List.mem_cons.1 hb with rfl | hb
    · rw [List.mem_take_iff_getElem] at ha
      obtain ⟨k, hk, rfl⟩ := ha
      exact hi.low k _ (by omega) (List.getElem?_eq_getElem (by omega))
    · exact h3 a ha b hb
theorem PinsOk.more {l : List Rn} {x v : Int} {i : Nat} (h : PinsOk l) (hi : PlaceOf l x i) (hx : thereB x = true) (h1 : 1 ≤ v) (h2 : v ≤ 1000000) (hl : hasAt l x i = true ∨ l.length < 16) : PinsOk (moreP l x i v) := by
  refine ⟨?_, fun z hz => ?_, ?_⟩
  · unfold moreP
    have := h.len
    split
    · rw [List.length_set]; exact this
    · rename_i hh
      have h3 : l.length < 16 := hl.resolve_left hh
      rw [List.length_append, List.length_cons, List.length_take, List.length_drop]
      have := hi.le
      omega
  · rcases (moreP_mem hi h.rise z).1 hz with rfl | ⟨hz, -⟩
    · exact bad_no.2 ⟨hx, h1, h2⟩
    · exact h.ok z hz
  · unfold moreP
    split
    · rename_i hh
      obtain ⟨y, hy, rfl⟩ := hasAt_some hh
      exact set_rise h.rise hy
    · rename_i hh
      exact ins_rise h.rise hi (place_none h.rise hi (by simpa using hh))
theorem PlaceOf.more {l : List Rn} {x v : Int} {i : Nat} (h : PinsOk l) (hi : PlaceOf l x i) : PlaceOf (moreP l x i v) x i ∧ (moreP l x i v)[i]? = some ⟨x, v⟩ := by
  unfold moreP
  by_cases hh : hasAt l x i = true
  · obtain ⟨y, hy, rfl⟩ := hasAt_some hh
    obtain ⟨q, rfl⟩ := List.getElem?_eq_some_iff.1 hy
    rw [if_pos hh]
    refine ⟨⟨by rw [List.length_set]; omega, fun k z hk hz => ?_, fun k z hk hz => ?_⟩, List.getElem?_set_self q⟩
    · rw [List.getElem?_set_ne (by omega)] at hz
      exact hi.low k z hk hz
    · by_cases hki : k = i
      · subst hki
        rw [List.getElem?_set_self q] at hz
        injection hz with hz
        subst hz
        exact Int.le_refl _
      · rw [List.getElem?_set_ne (by omega)] at hz
        exact hi.high k z hk hz
  · rw [if_neg hh]
    have hle := hi.le
    have hlt : (l.take i).length = i := by rw [List.length_take]; omega
    refine ⟨⟨by rw [List.length_append, List.length_cons, hlt]; omega, fun k z hk hz => ?_, fun k z hk hz => ?_⟩, by rw [List.getElem?_append_right (by omega), hlt, Nat.sub_self]; rfl⟩
    · rw [List.getElem?_append_left (by omega), List.getElem?_take, if_pos hk] at hz
      exact hi.low k z hk hz
    · rw [List.getElem?_append_right (by omega), hlt] at hz
      obtain ⟨d, hd⟩ : ∃ d, k = i + d := ⟨k - i, by omega⟩
      subst hd
      rw [show i + d - i = d by omega] at hz
      cases d with
      | zero =>
        simp only [List.getElem?_cons_zero, Option.some.injEq] at hz
        subst hz
        exact Int.le_refl _
      | succ d =>
        rw [List.getElem?_cons_succ, List.getElem?_drop] at hz
        exact hi.high (i + d) z (by omega) hz
theorem countP_more {l : List Rn} {x v : Int} {i : Nat} (h : PinsOk l) (h' : PinsOk (moreP l x i v)) (hi : PlaceOf l x i) (z : Int) : countP (moreP l x i v) z = if z = x then v else countP l z := by
  by_cases hz : z = x
  · subst hz
    rw [if_pos rfl]
    exact countP_some h' (y := ⟨z, v⟩) ((moreP_mem hi h.rise _).2 (.inl rfl))
  · rw [if_neg hz]
    cases hf : l.find? (fun y => decide (y.loc = z)) with
    | none =>
      have hn := List.find?_eq_none.1 hf
      rw [countP_none (fun y hy => ?_), countP_none (fun y hy => by simpa using hn y hy)]
      rcases (moreP_mem hi h.rise y).1 hy with rfl | ⟨hy, -⟩
      · exact fun e => hz e.symm
      · simpa using hn y hy
    | some y =>
      have h1 := List.find?_some hf
      have h2 := List.mem_of_find?_eq_some hf
      simp only [decide_eq_true_eq] at h1
      subst h1
      rw [countP_some h h2, countP_some h' ((moreP_mem hi h.rise _).2 (.inr ⟨h2, hz⟩))]
/-- One less. -/
def lessP (l : List Rn) (i : Nat) (x v : Int) : List Rn := if v = 0 then l.take i ++ l.drop (i + 1) else l.set i ⟨x, v⟩
theorem less_more {l : List Rn} {x : Int} {i : Nat} (h : PinsOk l) (hi : PlaceOf l x i) : lessP (moreP l x i (countP l x + 1)) i x (countP l x) = l := by
  by_cases hh : hasAt l x i = true
  · obtain ⟨y, hy, rfl⟩ := hasAt_some hh
    have hym := List.mem_of_getElem? hy
    have hb := bad_no.1 (h.ok y hym)
    rw [countP_some h hym]
    unfold lessP moreP
    rw [if_pos hh, if_neg (by omega), List.set_set]
    obtain ⟨q, rfl⟩ := List.getElem?_eq_some_iff.1 hy
    exact List.set_getElem_self q
  · rw [countP_none (place_none h.rise hi (by simpa using hh))]
    unfold lessP moreP
    have hlt : (l.take i).length = i := by rw [List.length_take]; have := hi.le; omega
    rw [if_neg hh, if_pos rfl, List.take_append_of_le_length (by omega), List.take_of_length_le (by omega), List.drop_append, List.drop_of_length_le (by omega), hlt, show i + 1 - i = 1 by omega, List.drop_succ_cons, List.drop_zero, List.nil_append, List.take_append_drop]
end Go.Proofs.YtjdpcmmmdaffdaaGreat
