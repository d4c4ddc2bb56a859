/-
  Texts joined: StObject StRef SetPay StLaw3 StMem2 StCopied.
-/
import Derived.Test.YtjdpcmmmdaffdaaG0
import Derived.Test.YtjdpcmmmdaffdaaG1
import Derived.Test.YtjdpcmmmdaffdaaG3
import Derived.Test.YtjdpcmmmdaffdaaG5
import Derived.Test.YtjdpcmmmdaffdaaG9
/-
  package store: object.
-/
namespace Go.Proofs.Ytjdpcmmmdaffdaa
open Go.RowKit

def objE (S : St) (slot : Int) : Int := if stE S ≠ 0 then stE S else if slot < 0 ∨ (S.r.length : Int) ≤ slot then 5 else if S.r.getD slot.toNat 0 < 0 then 5 else 0
theorem objE_ok {S : St} {slot : Int} (h : objE S slot = 0) : StOk S ∧ ∃ (k : Nat) (x : Int), slot = k ∧ S.r[k]? = some x ∧ 0 ≤ x := by
  unfold objE at h
  split at h
  · rename_i h0; exact absurd h h0
  · rename_i h0
    split at h
    · cases h
    · rename_i h1
      split at h
      · cases h
      · rename_i h2
        have hk : slot.toNat < S.r.length := by omega
        refine ⟨stE_ok.1 (by simpa using h0), slot.toNat, S.r[slot.toNat], by omega, List.getElem?_eq_getElem hk, ?_⟩
        rw [List.getD_eq_getElem?_getD, List.getElem?_eq_getElem hk] at h2
        simp only [Option.getD_some] at h2
        omega
theorem objE_of {S : St} {k : Nat} {x : Int} (hS : StOk S) (hx : S.r[k]? = some x) (h0 : 0 ≤ x) : objE S k = 0 := by
  have hk := (List.getElem?_eq_some_iff.1 hx).1
  unfold objE
  rw [if_neg (by rw [stE_ok.2 hS]; decide), if_neg (by omega), if_neg]
  rw [List.getD_eq_getElem?_getD, Int.toNat_natCast, hx]
  simp only [Option.getD_some]
  omega
/-- The object of a root. -/
structure ObjAt (S : St) (x : Int) (s : Spot) (i : Nat) : Prop where
  ix : atIx S.a x = i
  at_ : (spotsL S.a)[i]? = some s
  spot : spotAt (spotsL S.a) x = some s
  ok : SpotOk S.a s
  loc : s.loc = x
  free : s.f = false
theorem obj_at {S : St} (hS : StOk S) {x : Int} (hx : x ∈ S.begs) : ∃ s i, ObjAt S x s i := by
  obtain ⟨i, s, e1, e2, e3, e4, e5, e6, e7⟩ := spots_of_ix (checkE_ok.1 hS.arena).1 (begs_ix (hS.live x hx))
  refine ⟨s, i, e7, e2, ?_, e5, by first | exact e3 | exact e4, by first | exact e3 | exact e4⟩
  unfold spotAt
  rw [← pL_isBeg]
  rcases ixOf_cases (pL x) (spotsL S.a) with ⟨f1, f2⟩ | ⟨i', s', f1, f2, f3, f4⟩
  · have := f2 s (List.mem_of_getElem? e2)
    simp [pL, e3, e4] at this
  · have : i' = i := by omega
    subst this
    obtain rfl := Option.some.inj (f2.symm.trans e2)
    rw [List.find?_eq_some_iff_append]
    refine ⟨f3, (spotsL S.a).take i', (spotsL S.a).drop (i' + 1), ?_, fun y hy => by simp [f4 y hy]⟩
    obtain ⟨q1, q2⟩ := List.getElem?_eq_some_iff.1 f2
    rw [← q2, ← List.drop_eq_getElem_cons q1, List.take_append_drop]

set_option maxRecDepth 100000 in
set_option maxHeartbeats 4000000 in
theorem object_ok (A : Option Addr) (n c : Nat) (RA : Option Addr) (rn rc : Nat) (PA : Option Addr) (pn pc : Nat) (HA : Option Addr) (hn hc : Nat) (S : St) (k : Nat) (x : Int) (s : Spot) (i : Nat) (w : World)
    (hR : StR w w.heap.size A n RA rn PA pn HA hn S) (hK : StK n c rn pn hn S) (hOK : StOk S) (hx : S.r[k]? = some x) (h0 : 0 ≤ x) (hO : ObjAt S x s i) :
    Calls Try.prog 38 #[.agg #[.slice A n c, .slice RA rn rc, .slice PA pn pc, .slice HA hn hc], .int .i64 k] w fun e w' => Below w.heap.size w w' ∧ ∃ A1 c1 A2 c2, e = .returned (.tuple #[.int .i64 x, .agg #[.int .i64 s.t, .slice A1 s.r.toNat c1, .slice A2 s.b.toNat c2, .bool false], .int .i64 0]) ∧
      w'.ownsRow w.heap.size 3 1 (.slice A1 s.r.toNat c1) s.r.toNat ((refIx (spotsL S.a) S.a s).map (.int .i64)) ∧ w'.ownsRow w.heap.size 35 1 (.slice A2 s.b.toNat c2) s.b.toNat ((bodyOf S.a s).map (.int .u64)) := by
  have HCk := Lib.hid (fun w hR => stcheck_any A n c RA rn rc PA pn pc HA hn hc S w hR hK)
  rw [stE_ok.2 hOK] at HCk
  have HAt := Lib.hid (fun w hr => at_ok A n c S.a x i s w hr hK.cap hK.wf hOK.arena hO.ix hO.at_)
  rw [hO.free] at HAt
  obtain ⟨z1, z2, z3, z4⟩ := hR.lens
  have hk : k < rn := by have := (List.getElem?_eq_some_iff.1 hx).1; omega
  have g1 : decide ((k : Int) < 0) = false := decide_eq_false (by omega)
  have g2 : decide (rn ≤ k) = false := decide_eq_false (by omega)
  have g3 : decide (x < 0) = false := decide_eq_false (by omega)
  generalize (refIx (spotsL S.a) S.a s).map (Value.int .i64) = l1 at *
  generalize (bodyOf S.a s).map (Value.int .u64) = l2 at *
  generalize s.r.toNat = q1 at *
  generalize s.b.toNat = q2 at *
  generalize s.t = t at *
  have HX := Lib.hid hx
  have hb0 := below_new w (.cells #[.slice A n c, .slice RA rn rc, .slice PA pn pc, .slice HA hn hc] 28)
  have hb1 := hb0.alloc hb0.size (.cells #[.int .i64 0, .slice none 0 0, .slice none 0 0, .bool false] 73)
  have DS := (Blk.new w 28 #[.slice A n c, .slice RA rn rc, .slice PA pn pc, .slice HA hn hc]).alloc (.cells #[.int .i64 0, .slice none 0 0, .slice none 0 0, .bool false] 73)
  have DR := Blk.new (w.alloc (.cells #[.slice A n c, .slice RA rn rc, .slice PA pn pc, .slice HA hn hc] 28)) 73 #[.int .i64 0, .slice none 0 0, .slice none 0 0, .bool false]
  rw [World.size_alloc] at DR
  obtain ⟨s0, s1, s2, s3⟩ := DS.four
  clear hb0 z1 z2 z3 z4 hOK hx hO
  go_enter Try.func38, Try.ntmps38
  go_wp2_with fail
  refine (HCk.out _ ((hR.below hb1).more hb1.size)).mono ?_
  rintro e w2 ⟨rfl, hb2⟩
  have DS := DS.below hb2 DS.lt
  have DR2 := DR.below hb2 DR.lt
  have hb02 := below_step hb1 hb2
  clear s0 s1 s2 s3 hb1 hb2 DR
  obtain ⟨s0, s1, s2, s3⟩ := DS.four
  obtain ⟨ad, x', rfl, had, hx', cx⟩ := (hR.r.below hb02).num hk
  obtain rfl : x' = x := Option.some.inj (hx'.symm.trans HX.out)
  clear hx'
  go_upto_region 6 with fail
  go_cut [7, 8] from 9 to 52 (fun s7 s8 wc => ∃ (g : Nat) (A1 : Option Addr) (c1 : Nat) (A2 : Option Addr) (c2 : Nat), s7 = .int .i64 0 ∧ s8 = .pointer (some ⟨g, 0, none⟩) ∧ w2.heap.size ≤ g ∧ Blk wc g 73 #[.int .i64 t, .slice A1 q1 c1, .slice A2 q2 c2, .bool false] ∧
    wc.ownsRow w.heap.size 3 1 (.slice A1 q1 c1) q1 l1 ∧ wc.ownsRow w.heap.size 35 1 (.slice A2 q2 c2) q2 l2 ∧ Below w2.heap.size w2 wc)
  case first =>
    have hb := hb02.drew
    have hb9 := (Below.refl w2.heap.size w2).drew
    have DS := DS.drew
    obtain ⟨s0, s1, s2, s3⟩ := DS.four
    have cx : w2.drew.cell? (ad.add k) = some (.int .i64 x') := cx
    have hbz := (hb02.alloc hb02.size (.cells #[.int .i64 0, .slice none 0 0, .slice none 0 0, .bool false] 73)).drew
    have DSz := DS.alloc (.cells #[.int .i64 0, .slice none 0 0, .slice none 0 0, .bool false] 73)
    have DGz := (Blk.new w2 73 #[.int .i64 0, .slice none 0 0, .slice none 0 0, .bool false]).drew
    have cxz : (w2.alloc (.cells #[.int .i64 0, .slice none 0 0, .slice none 0 0, .bool false] 73)).drew.cell? (ad.add k) = some (.int .i64 x') := by
      refine (World.cell?_alloc_lt w2 _ (ad.add k) ?_).trans cx
      rw [block_of_add]
      have := hb02.size
      omega
    have hsz := hb02.size
    have ne1 : w2.heap.size ≠ w.heap.size := by have := DS.lt; have : w.heap.size < w2.heap.size := this; omega
    have ne2 : w2.heap.size ≠ (ad.add k).block := by rw [block_of_add]; omega
    have ne3 : w2.heap.size ≠ ad.block := by omega
    go_region_held3 (fun w' => w'.cell? ⟨w.heap.size, 0, none⟩ = some (.slice A n c) ∧ w'.cell? ⟨w.heap.size, 1, none⟩ = some (.slice (some ad) rn rc) ∧ w'.cell? (ad.add k) = some (.int .i64 x')) (go_keep)
      (first
        | (go_at_call 31; (with_reducible refine (HAt.out _ ((hR.a.below hb).more hb.size)).mono ?_); rintro e wA ⟨hbA, A1, c1, A2, c2, rfl, o1, o2⟩; have DS := DS.below hbA DS.lt; obtain ⟨s0, s1, s2, s3⟩ := DS.four; have cx := (hbA.cell (p := ad.add k) (by rw [block_of_add]; have := hb.size; omega)).trans cx)
        | (go_at_call 31; (with_reducible refine (HAt.out _ ((hR.a.below hbz).more hbz.size)).mono ?_); rintro e wA ⟨hbA, A1, c1, A2, c2, rfl, o1, o2⟩; have DS := DSz.below hbA DSz.lt; obtain ⟨s0, s1, s2, s3⟩ := DS.four; have cx := (hbA.cell (p := ad.add k) (by rw [block_of_add]; have := hbz.size; omega)).trans cxz; have DG := DGz.below hbA DGz.lt; obtain ⟨d0, d1, d2, d3⟩ := DG.four; have f0 := DG.frozen 0; have f1 := DG.frozen 1; have f2 := DG.frozen 2; have f3 := DG.frozen 3))
    all_goals
      go_wp2_with fail
      go_meet
    · exact ⟨_, A1, c1, A2, c2, rfl, rfl, hbA.size, Blk.new wA _ _, (own_mono o1 hb.size).alloc _, (own_mono o2 hb.size).alloc _, (hb9.trans hbA).alloc (hb9.trans hbA).size _⟩
    · have hq := ((below_new w2 (.cells #[.int .i64 0, .slice none 0 0, .slice none 0 0, .bool false] 73)).drew).trans (hbA.mono (by simp))
      exact ⟨_, A1, c1, A2, c2, rfl, rfl, Nat.le_refl _, (((DG.set_ 0 _).set_ 1 _).set_ 2 _).set_ 3 _, own_block4 (own_mono o1 hbz.size) DG (by decide) _ _ _ _, own_block4 (own_mono o2 hbz.size) DG (by decide) _ _ _ _, below_block4 hq (Nat.le_refl _) _ _ _ _⟩
  case rest =>
    obtain ⟨g, A1, c1, A2, c2, rfl, rfl, hg, DG, o1, o2, hbc⟩ := hcut
    have hb03 := below_step hb02 hbc
    have DS := DS.below hbc DS.lt
    have hrl := DR2.lt
    have DR := DR2.below hbc DR2.lt
    have cx := (hbc.cell (p := ad.add k) (by rw [block_of_add]; have := hb02.size; omega)).trans cx
    have ne1 : g ≠ w.heap.size + 1 := by have : w.heap.size + 1 < w2.heap.size := hrl; omega
    clear s0 s1 s2 s3
    obtain ⟨s0, s1, s2, s3⟩ := DS.four
    obtain ⟨d0, d1, d2, d3⟩ := DG.four
    obtain ⟨r0, r1, r2, r3⟩ := DR.four
    have f0 := DR.frozen 0
    have f1 := DR.frozen 1
    have f2 := DR.frozen 2
    have f3 := DR.frozen 3
    go_upto_region 7 with fail
    go_region
    all_goals
      go_wp2_with fail
    have z4 := (((DR.set_ 0 (.int .i64 t)).set_ 1 (.slice A1 q1 c1)).set_ 2 (.slice A2 q2 c2)).set_ 3 (.bool false)
    refine bodyPost_ret (v := .tuple #[.int .i64 x', .agg #[.int .i64 t, .slice A1 q1 c1, .slice A2 q2 c2, .bool false], .int .i64 0]) ?_ rfl ⟨(below_block4 hb03 (Nat.le_succ _) _ _ _ _).drew, A1, c1, A2, c2, rfl, (own_block4 o1 DR (by decide) _ _ _ _).drew, (own_block4 o2 DR (by decide) _ _ _ _).drew⟩
    obtain ⟨z0, z1, z2, z3⟩ := z4.drew.four
    simp only [results, Try.results38]
    go_simp

set_option maxRecDepth 100000 in
set_option maxHeartbeats 4000000 in
theorem object_bad (A : Option Addr) (n c : Nat) (RA : Option Addr) (rn rc : Nat) (PA : Option Addr) (pn pc : Nat) (HA : Option Addr) (hn hc : Nat) (S : St) (slot : Int) (w : World)
    (hR : StR w w.heap.size A n RA rn PA pn HA hn S) (hK : StK n c rn pn hn S) (hE : objE S slot ≠ 0) :
    Calls Try.prog 38 #[.agg #[.slice A n c, .slice RA rn rc, .slice PA pn pc, .slice HA hn hc], .int .i64 slot] w fun e w' => Below w.heap.size w w' ∧ e = .returned (.tuple #[.int .i64 0, .agg #[.int .i64 0, .slice none 0 0, .slice none 0 0, .bool false], .int .i64 (objE S slot)]) := by
  have HCk := Lib.hid (fun w hR => stcheck_any A n c RA rn rc PA pn pc HA hn hc S w hR hK)
  obtain ⟨-, hl, -, -⟩ := hR.lens
  have HX : Hid (objE S slot = if stE S ≠ 0 then stE S else if slot < 0 ∨ (rn : Int) ≤ slot then 5 else if S.r.getD slot.toNat 0 < 0 then 5 else 0) := by
    show _ = _
    rw [← hl]
    rfl
  have HE := Lib.hid hE
  generalize objE S slot = F at *
  generalize stE S = E at *
  have hb0 := below_new w (.cells #[.slice A n c, .slice RA rn rc, .slice PA pn pc, .slice HA hn hc] 28)
  have hb1 := hb0.alloc hb0.size (.cells #[.int .i64 0, .slice none 0 0, .slice none 0 0, .bool false] 73)
  have DS := (Blk.new w 28 #[.slice A n c, .slice RA rn rc, .slice PA pn pc, .slice HA hn hc]).alloc (.cells #[.int .i64 0, .slice none 0 0, .slice none 0 0, .bool false] 73)
  have DR := Blk.new (w.alloc (.cells #[.slice A n c, .slice RA rn rc, .slice PA pn pc, .slice HA hn hc] 28)) 73 #[.int .i64 0, .slice none 0 0, .slice none 0 0, .bool false]
  rw [World.size_alloc] at DR
  obtain ⟨s0, s1, s2, s3⟩ := DS.four
  have HL := Lib.hid hl
  clear hb0 hE hl
  go_enter Try.func38, Try.ntmps38
  go_wp2_with fail
  refine (HCk.out _ ((hR.below hb1).more hb1.size)).mono ?_
  rintro e w2 ⟨rfl, hb2⟩
  have DS := DS.below hb2 DS.lt
  have DR2 := DR.below hb2 DR.lt
  have hb02 := below_step hb1 hb2
  clear s0 s1 s2 s3 hb1 hb2 DR
  obtain ⟨s0, s1, s2, s3⟩ := DS.four
  obtain ⟨r0, r1, r2, r3⟩ := DR2.four
  have f0 := DR2.frozen 0
  have f1 := DR2.frozen 1
  have f2 := DR2.frozen 2
  have f3 := DR2.frozen 3
  have z4 := (((DR2.set_ 0 (.int .i64 0)).set_ 1 (.slice none 0 0)).set_ 2 (.slice none 0 0)).set_ 3 (.bool false)
  by_cases h0 : E = 0
  · subst h0
    have HX5 : Hid (F = 5) := by
      have h1 := HX.out
      have h2 := HE.out
      show _ = _
      rw [if_neg (by decide)] at h1
      split at h1
      · exact h1
      · split at h1
        · exact h1
        · exact absurd h1 h2
    by_cases h1 : slot < 0
    · have g1 : decide (slot < 0) = true := decide_eq_true h1
      clear h1
      go_wp2_with fail
      refine bodyPost_ret (v := .tuple #[.int .i64 0, .agg #[.int .i64 0, .slice none 0 0, .slice none 0 0, .bool false], .int .i64 F]) ?_ rfl ⟨below_block4 hb02 (Nat.le_succ _) _ _ _ _, rfl⟩
      obtain ⟨z0, z1, z2, z3⟩ := z4.four
      simp only [results, Try.results38]
      have HF := HX5.out
      subst HF
      go_simp
    · have g1 : decide (slot < 0) = false := decide_eq_false h1
      obtain ⟨k, rfl⟩ := Int.eq_ofNat_of_zero_le (show 0 ≤ slot by omega)
      by_cases h2 : rn ≤ k
      · have g2 : decide (rn ≤ k) = true := decide_eq_true h2
        have g2' : decide ((rn : Int) ≤ (k : Int)) = true := decide_eq_true (by omega)
        clear h1 h2
        go_wp2_with fail
        refine bodyPost_ret (v := .tuple #[.int .i64 0, .agg #[.int .i64 0, .slice none 0 0, .slice none 0 0, .bool false], .int .i64 F]) ?_ rfl ⟨below_block4 hb02 (Nat.le_succ _) _ _ _ _, rfl⟩
        obtain ⟨z0, z1, z2, z3⟩ := z4.four
        simp only [results, Try.results38]
        have HF := HX5.out
        subst HF
        go_simp
      · have g2 : decide (rn ≤ k) = false := decide_eq_false h2
        have g2' : decide ((rn : Int) ≤ (k : Int)) = false := decide_eq_false (by omega)
        have hk : k < rn := by omega
        obtain ⟨ad, x', rfl, had, hx', cx⟩ := (hR.r.below hb02).num hk
        have g3 : decide (x' < 0) = true := by
          have h3 := HX.out
          have h4 := HX5.out
          rw [if_neg (by decide), if_neg (by omega)] at h3
          rw [List.getD_eq_getElem?_getD, Int.toNat_natCast, hx'] at h3
          simp only [Option.getD_some] at h3
          split at h3
          · exact decide_eq_true ‹_›
          · exact absurd (h4.symm.trans h3) (by decide)
        clear h1 h2 hx'
        go_wp2_with fail
        refine bodyPost_ret (v := .tuple #[.int .i64 0, .agg #[.int .i64 0, .slice none 0 0, .slice none 0 0, .bool false], .int .i64 F]) ?_ rfl ⟨below_block4 hb02 (Nat.le_succ _) _ _ _ _, rfl⟩
        obtain ⟨z0, z1, z2, z3⟩ := z4.four
        simp only [results, Try.results38]
        have HF := HX5.out
        subst HF
        go_simp
  · have g1 : (E != 0) = true := by simpa using h0
    have HX5 : Hid (F = E) := by
      have h1 := HX.out
      rw [if_pos h0] at h1
      exact h1
    clear h0
    go_wp2_with fail
    refine bodyPost_ret (v := .tuple #[.int .i64 0, .agg #[.int .i64 0, .slice none 0 0, .slice none 0 0, .bool false], .int .i64 F]) ?_ rfl ⟨below_block4 hb02 (Nat.le_succ _) _ _ _ _, rfl⟩
    obtain ⟨z0, z1, z2, z3⟩ := z4.four
    simp only [results, Try.results38]
    have HF := HX5.out
    subst HF
    go_simp
end Go.Proofs.Ytjdpcmmmdaffdaa

/-
  package store: ref, body.
-/
namespace Go.Proofs.Ytjdpcmmmdaffdaa
open Go.RowKit

/-- The object of a root. -/
def spS (S : St) (slot : Int) : Spot := (spotAt (spotsL S.a) (S.r.getD slot.toNat 0)).getD ⟨0, 0, 0, 0, false⟩
def refE (S : St) (slot k other : Int) : Int := if objE S slot ≠ 0 then objE S slot else if k < 0 ∨ (spS S slot).r ≤ k then 4 else if other < 0 ∨ (S.r.length : Int) ≤ other then 5 else 0
def bodyE (S : St) (slot k : Int) : Int := if objE S slot ≠ 0 then objE S slot else if k < 0 ∨ (spS S slot).b ≤ k then 4 else 0
theorem spS_at {S : St} {k : Nat} {x : Int} {s : Spot} {i : Nat} (hx : S.r[k]? = some x) (hO : ObjAt S x s i) : spS S k = s := by
  unfold spS
  rw [List.getD_eq_getElem?_getD, Int.toNat_natCast, hx]
  simp only [Option.getD_some]
  rw [hO.spot]
  rfl
/-- All that is known of a root that names an object. -/
theorem root_obj {S : St} {slot : Int} (h : objE S slot = 0) : StOk S ∧ ∃ (k X : Nat) (s : Spot) (i : Nat), slot = k ∧ S.r[k]? = some (X : Int) ∧ ObjAt S X s i ∧ spS S slot = s ∧ X < S.a.length ∧ (X : Int) + s.long ≤ S.a.length := by
  obtain ⟨hOK, k, x, rfl, hx, h0⟩ := objE_ok h
  have hb := root_at (List.mem_of_getElem? hx) h0
  obtain ⟨s, i, hO⟩ := obj_at hOK hb
  obtain ⟨X, rfl⟩ := Int.eq_ofNat_of_zero_le h0
  have h1 := begs_lt hOK.arena (hOK.live _ hb)
  have h2 := hO.ok.fits
  rw [hO.loc] at h2
  exact ⟨hOK, k, X, s, i, rfl, hx, hO, spS_at hx hO, by omega, h2⟩

set_option maxRecDepth 100000 in
set_option maxHeartbeats 4000000 in
theorem ref_ok (A : Option Addr) (n c : Nat) (RA : Option Addr) (rn rc : Nat) (PA : Option Addr) (pn pc : Nat) (HA : Option Addr) (hn hc : Nat) (S : St) (k X K O : Nat) (s : Spot) (i : Nat) (w : World) (hR : StR w w.heap.size A n RA rn PA pn HA hn S) (hK : StK n c rn pn hn S) (hOK : StOk S) (hx : S.r[k]? = some (X : Int)) (hO : ObjAt S X s i) (hk : (K : Int) < s.r) (ho : O < S.r.length) :
    Calls Try.prog 21 #[.agg #[.slice A n c, .slice RA rn rc, .slice PA pn pc, .slice HA hn hc], .int .i64 k, .int .i64 K, .int .i64 O] w fun e w' => Below w.heap.size w w' ∧ e = .returned (.tuple #[.int .i64 (X + 1 + K : Nat), .int .i64 0]) := by
  have HOb := Lib.hid (fun w hR => object_ok A n c RA rn rc PA pn pc HA hn hc S k X s i w hR hK hOK hx (by omega) hO)
  have hfit := hO.ok.fits
  have hr0 := hO.ok.r0
  have hb0 := hO.ok.b0
  have hlen := (parse_ok (checkE_ok.1 hOK.arena).1).1
  rw [hO.loc] at hfit
  unfold Spot.long at hfit
  obtain ⟨-, hl2, -, -⟩ := hR.lens
  obtain ⟨q1, hq1⟩ : ∃ q : Nat, q = s.r.toNat := ⟨_, rfl⟩
  obtain ⟨q2, hq2⟩ : ∃ q : Nat, q = s.b.toNat := ⟨_, rfl⟩
  rw [← hq1, ← hq2] at HOb
  have g1 : decide ((K : Int) < 0) = false := decide_eq_false (by omega)
  have g2 : decide (q1 ≤ K) = false := decide_eq_false (by omega)
  have g3 : decide ((O : Int) < 0) = false := decide_eq_false (by omega)
  have g4 : decide (rn ≤ O) = false := decide_eq_false (by omega)
  obtain ⟨X1, hX1⟩ : ∃ y : Nat, y = X + 1 := ⟨_, rfl⟩
  obtain ⟨p, hp⟩ : ∃ y : Nat, y = X1 + K := ⟨_, rfl⟩
  have hw1 : IntKind.i64.wrap ((X : Int) + 1) = X1 := (IntWalk.i64_in _ (by omega)).trans (by omega)
  have hw2 : IntKind.i64.wrap ((X1 : Int) + K) = p := (IntWalk.i64_in _ (by omega)).trans (by omega)
  have HP : X + 1 + K = p := by omega
  rw [HP]
  clear hX1 hp hq1 hq2 hfit hr0 hb0 hlen hl2 ho hk HP
  generalize s.t = t at *
  generalize (refIx (spotsL S.a) S.a s).map (Value.int .i64) = l1 at *
  generalize (bodyOf S.a s).map (Value.int .u64) = l2 at *
  have hb1 := below_new w (.cells #[.slice A n c, .slice RA rn rc, .slice PA pn pc, .slice HA hn hc] 28)
  have DS := Blk.new w 28 #[.slice A n c, .slice RA rn rc, .slice PA pn pc, .slice HA hn hc]
  obtain ⟨s0, s1, s2, s3⟩ := DS.four
  clear hO hOK hx
  go_enter Try.func21, Try.ntmps21
  go_wp2_with fail
  refine (HOb.out _ ((hR.below hb1).more hb1.size)).mono ?_
  rintro e w2 ⟨hb2, A1, c1, A2, c2, rfl, -, -⟩
  have hb02 := below_step hb1 hb2
  have hb03 := hb02.alloc hb02.size (.cells #[.int .i64 t, .slice A1 q1 c1, .slice A2 q2 c2, .bool false] 73)
  have DS := (DS.below hb2 DS.lt).alloc (.cells #[.int .i64 t, .slice A1 q1 c1, .slice A2 q2 c2, .bool false] 73)
  have DG := Blk.new w2 73 #[.int .i64 t, .slice A1 q1 c1, .slice A2 q2 c2, .bool false]
  clear s0 s1 s2 s3 HOb
  obtain ⟨s0, s1, s2, s3⟩ := DS.four
  obtain ⟨d0, d1, d2, d3⟩ := DG.four
  go_wp2_with fail
  go_ret2
  exact ⟨hb03, by first | rfl | (congr 3; omega)⟩

set_option maxRecDepth 100000 in
set_option maxHeartbeats 4000000 in
theorem body_ok (A : Option Addr) (n c : Nat) (RA : Option Addr) (rn rc : Nat) (PA : Option Addr) (pn pc : Nat) (HA : Option Addr) (hn hc : Nat) (S : St) (k X K : Nat) (s : Spot) (i : Nat) (w : World) (hR : StR w w.heap.size A n RA rn PA pn HA hn S) (hK : StK n c rn pn hn S) (hOK : StOk S) (hx : S.r[k]? = some (X : Int)) (hO : ObjAt S X s i) (hk : (K : Int) < s.b) :
    Calls Try.prog 19 #[.agg #[.slice A n c, .slice RA rn rc, .slice PA pn pc, .slice HA hn hc], .int .i64 k, .int .i64 K] w fun e w' => Below w.heap.size w w' ∧ e = .returned (.tuple #[.int .i64 (X + 1 + s.r.toNat + K : Nat), .int .i64 0]) := by
  have HOb := Lib.hid (fun w hR => object_ok A n c RA rn rc PA pn pc HA hn hc S k X s i w hR hK hOK hx (by omega) hO)
  have hfit := hO.ok.fits
  have hr0 := hO.ok.r0
  have hb0 := hO.ok.b0
  have hlen := (parse_ok (checkE_ok.1 hOK.arena).1).1
  rw [hO.loc] at hfit
  unfold Spot.long at hfit
  obtain ⟨-, hl2, -, -⟩ := hR.lens
  obtain ⟨q1, hq1⟩ : ∃ q : Nat, q = s.r.toNat := ⟨_, rfl⟩
  obtain ⟨q2, hq2⟩ : ∃ q : Nat, q = s.b.toNat := ⟨_, rfl⟩
  rw [← hq1, ← hq2] at HOb
  have g1 : decide ((K : Int) < 0) = false := decide_eq_false (by omega)
  have g2 : decide (q2 ≤ K) = false := decide_eq_false (by omega)
  obtain ⟨X1, hX1⟩ : ∃ y : Nat, y = X + 1 := ⟨_, rfl⟩
  obtain ⟨X2, hX2⟩ : ∃ y : Nat, y = X1 + q1 := ⟨_, rfl⟩
  obtain ⟨p, hp⟩ : ∃ y : Nat, y = X2 + K := ⟨_, rfl⟩
  have hw1 : IntKind.i64.wrap ((X : Int) + 1) = X1 := (IntWalk.i64_in _ (by omega)).trans (by omega)
  have hw2 : IntKind.i64.wrap ((X1 : Int) + q1) = X2 := (IntWalk.i64_in _ (by omega)).trans (by omega)
  have hw3 : IntKind.i64.wrap ((X2 : Int) + K) = p := (IntWalk.i64_in _ (by omega)).trans (by omega)
  have HP : X + 1 + s.r.toNat + K = p := by omega
  rw [HP]
  clear hX1 hX2 hp hq1 hq2 hfit hr0 hb0 hlen hl2 hk HP
  generalize s.t = t at *
  generalize (refIx (spotsL S.a) S.a s).map (Value.int .i64) = l1 at *
  generalize (bodyOf S.a s).map (Value.int .u64) = l2 at *
  have hb1 := below_new w (.cells #[.slice A n c, .slice RA rn rc, .slice PA pn pc, .slice HA hn hc] 28)
  have DS := Blk.new w 28 #[.slice A n c, .slice RA rn rc, .slice PA pn pc, .slice HA hn hc]
  obtain ⟨s0, s1, s2, s3⟩ := DS.four
  clear hO hOK hx
  go_enter Try.func19, Try.ntmps19
  go_wp2_with fail
  refine (HOb.out _ ((hR.below hb1).more hb1.size)).mono ?_
  rintro e w2 ⟨hb2, A1, c1, A2, c2, rfl, -, -⟩
  have hb02 := below_step hb1 hb2
  have hb03 := hb02.alloc hb02.size (.cells #[.int .i64 t, .slice A1 q1 c1, .slice A2 q2 c2, .bool false] 73)
  have DS := (DS.below hb2 DS.lt).alloc (.cells #[.int .i64 t, .slice A1 q1 c1, .slice A2 q2 c2, .bool false] 73)
  have DG := Blk.new w2 73 #[.int .i64 t, .slice A1 q1 c1, .slice A2 q2 c2, .bool false]
  clear s0 s1 s2 s3 HOb
  obtain ⟨s0, s1, s2, s3⟩ := DS.four
  obtain ⟨d0, d1, d2, d3⟩ := DG.four
  go_wp2_with fail
  go_ret2
  exact ⟨hb03, by first | rfl | (congr 3; omega)⟩

set_option maxRecDepth 100000 in
set_option maxHeartbeats 4000000 in
theorem ref_bad (A : Option Addr) (n c : Nat) (RA : Option Addr) (rn rc : Nat) (PA : Option Addr) (pn pc : Nat) (HA : Option Addr) (hn hc : Nat) (S : St) (slot k other : Int) (w : World) (hR : StR w w.heap.size A n RA rn PA pn HA hn S) (hK : StK n c rn pn hn S) (hE : refE S slot k other ≠ 0) :
    Calls Try.prog 21 #[.agg #[.slice A n c, .slice RA rn rc, .slice PA pn pc, .slice HA hn hc], .int .i64 slot, .int .i64 k, .int .i64 other] w fun e w' => Below w.heap.size w w' ∧ e = .returned (.tuple #[.int .i64 0, .int .i64 (refE S slot k other)]) := by
  obtain ⟨-, hl2, -, -⟩ := hR.lens
  have hb1 := below_new w (.cells #[.slice A n c, .slice RA rn rc, .slice PA pn pc, .slice HA hn hc] 28)
  have DS := Blk.new w 28 #[.slice A n c, .slice RA rn rc, .slice PA pn pc, .slice HA hn hc]
  obtain ⟨s0, s1, s2, s3⟩ := DS.four
  by_cases h0 : objE S slot = 0
  · obtain ⟨hOK, k', X, s, i, rfl, hx, hO, hsp, -, -⟩ := root_obj h0
    have HOb := Lib.hid (fun w hR => object_ok A n c RA rn rc PA pn pc HA hn hc S k' X s i w hR hK hOK hx (by omega) hO)
    have hr0 := hO.ok.r0
    have hb0 := hO.ok.b0
    obtain ⟨q1, HQ1⟩ : ∃ q : Nat, Hid (q = s.r.toNat) := ⟨_, rfl⟩
    obtain ⟨q2, HQ2⟩ : ∃ q : Nat, Hid (q = s.b.toNat) := ⟨_, rfl⟩
    rw [← HQ1.out, ← HQ2.out] at HOb
    generalize s.t = t at *
    generalize (refIx (spotsL S.a) S.a s).map (Value.int .i64) = l1 at *
    generalize (bodyOf S.a s).map (Value.int .u64) = l2 at *
    have HX := Lib.hid hE
    unfold refE at hE HX
    unfold refE
    rw [if_neg (by simp [h0]), hsp] at hE ⊢
    by_cases h1 : k < 0
    · rw [if_pos (.inl h1)]
      have g1 : decide (k < 0) = true := decide_eq_true h1
      clear h1
      clear hO hOK hx hsp hE HX
      go_enter Try.func21, Try.ntmps21
      go_wp2_with fail
      refine (HOb.out _ ((hR.below hb1).more hb1.size)).mono ?_
      rintro e w2 ⟨hb2, A1, c1, A2, c2, rfl, -, -⟩
      have hb02 := below_step hb1 hb2
      have hb03 := hb02.alloc hb02.size (.cells #[.int .i64 t, .slice A1 q1 c1, .slice A2 q2 c2, .bool false] 73)
      have DS := (DS.below hb2 DS.lt).alloc (.cells #[.int .i64 t, .slice A1 q1 c1, .slice A2 q2 c2, .bool false] 73)
      have DG := Blk.new w2 73 #[.int .i64 t, .slice A1 q1 c1, .slice A2 q2 c2, .bool false]
      clear s0 s1 s2 s3
      obtain ⟨s0, s1, s2, s3⟩ := DS.four
      obtain ⟨d0, d1, d2, d3⟩ := DG.four
      go_wp2_with fail
      go_ret2
      exact ⟨hb03, rfl⟩
    · have g1 : decide (k < 0) = false := decide_eq_false h1
      obtain ⟨K, rfl⟩ := Int.eq_ofNat_of_zero_le (show 0 ≤ k by omega)
      by_cases h2 : s.r ≤ K
      · rw [if_pos (.inr h2)]
        have g2 : decide (q1 ≤ K) = true := decide_eq_true (by have := HQ1.out; have := HQ2.out; omega)
        have g2' : decide ((q1 : Int) ≤ (K : Int)) = true := decide_eq_true (by have := HQ1.out; have := HQ2.out; omega)
        clear h1 h2
        clear hO hOK hx hsp hE HX
        go_enter Try.func21, Try.ntmps21
        go_wp2_with fail
        refine (HOb.out _ ((hR.below hb1).more hb1.size)).mono ?_
        rintro e w2 ⟨hb2, A1, c1, A2, c2, rfl, -, -⟩
        have hb02 := below_step hb1 hb2
        have hb03 := hb02.alloc hb02.size (.cells #[.int .i64 t, .slice A1 q1 c1, .slice A2 q2 c2, .bool false] 73)
        have DS := (DS.below hb2 DS.lt).alloc (.cells #[.int .i64 t, .slice A1 q1 c1, .slice A2 q2 c2, .bool false] 73)
        have DG := Blk.new w2 73 #[.int .i64 t, .slice A1 q1 c1, .slice A2 q2 c2, .bool false]
        clear s0 s1 s2 s3
        obtain ⟨s0, s1, s2, s3⟩ := DS.four
        obtain ⟨d0, d1, d2, d3⟩ := DG.four
        go_wp2_with fail
        go_ret2
        exact ⟨hb03, rfl⟩
      · rw [if_neg (by omega)] at hE ⊢
        have g2 : decide (q1 ≤ K) = false := decide_eq_false (by have := HQ1.out; have := HQ2.out; omega)
        have g2' : decide ((q1 : Int) ≤ (K : Int)) = false := decide_eq_false (by have := HQ1.out; have := HQ2.out; omega)
        by_cases h3 : other < 0
        · rw [if_pos (.inl h3)]
          have g3 : decide (other < 0) = true := decide_eq_true h3
          clear h1 h2 h3
          clear hO hOK hx hsp hE HX
          go_enter Try.func21, Try.ntmps21
          go_wp2_with fail
          refine (HOb.out _ ((hR.below hb1).more hb1.size)).mono ?_
          rintro e w2 ⟨hb2, A1, c1, A2, c2, rfl, -, -⟩
          have hb02 := below_step hb1 hb2
          have hb03 := hb02.alloc hb02.size (.cells #[.int .i64 t, .slice A1 q1 c1, .slice A2 q2 c2, .bool false] 73)
          have DS := (DS.below hb2 DS.lt).alloc (.cells #[.int .i64 t, .slice A1 q1 c1, .slice A2 q2 c2, .bool false] 73)
          have DG := Blk.new w2 73 #[.int .i64 t, .slice A1 q1 c1, .slice A2 q2 c2, .bool false]
          clear s0 s1 s2 s3
          obtain ⟨s0, s1, s2, s3⟩ := DS.four
          obtain ⟨d0, d1, d2, d3⟩ := DG.four
          go_wp2_with fail
          go_ret2
          exact ⟨hb03, rfl⟩
        · have g3 : decide (other < 0) = false := decide_eq_false h3
          obtain ⟨O, rfl⟩ := Int.eq_ofNat_of_zero_le (show 0 ≤ other by omega)
          by_cases h4 : rn ≤ O
          · rw [if_pos (.inr (by omega))]
            have g4 : decide (rn ≤ O) = true := decide_eq_true h4
            have g4' : decide ((rn : Int) ≤ (O : Int)) = true := decide_eq_true (by omega)
            clear h1 h2 h3 h4
            clear hO hOK hx hsp hE HX
            go_enter Try.func21, Try.ntmps21
            go_wp2_with fail
            refine (HOb.out _ ((hR.below hb1).more hb1.size)).mono ?_
            rintro e w2 ⟨hb2, A1, c1, A2, c2, rfl, -, -⟩
            have hb02 := below_step hb1 hb2
            have hb03 := hb02.alloc hb02.size (.cells #[.int .i64 t, .slice A1 q1 c1, .slice A2 q2 c2, .bool false] 73)
            have DS := (DS.below hb2 DS.lt).alloc (.cells #[.int .i64 t, .slice A1 q1 c1, .slice A2 q2 c2, .bool false] 73)
            have DG := Blk.new w2 73 #[.int .i64 t, .slice A1 q1 c1, .slice A2 q2 c2, .bool false]
            clear s0 s1 s2 s3
            obtain ⟨s0, s1, s2, s3⟩ := DS.four
            obtain ⟨d0, d1, d2, d3⟩ := DG.four
            go_wp2_with fail
            go_ret2
            exact ⟨hb03, rfl⟩
          · rw [if_neg (by omega)] at hE
            exact absurd rfl hE
  · have HOb := Lib.hid (fun w hR => object_bad A n c RA rn rc PA pn pc HA hn hc S slot w hR hK h0)
    have hX : refE S slot k other = objE S slot := by unfold refE; rw [if_pos h0]
    rw [hX]
    have g1 : (objE S slot != 0) = true := by simpa using h0
    generalize objE S slot = F at *
    clear hE hX h0
    go_enter Try.func21, Try.ntmps21
    go_wp2_with fail
    refine (HOb.out _ ((hR.below hb1).more hb1.size)).mono ?_
    rintro e w2 ⟨hb2, rfl⟩
    have hb02 := below_step hb1 hb2
    have hb03 := hb02.alloc hb02.size (.cells #[.int .i64 0, .slice none 0 0, .slice none 0 0, .bool false] 73)
    go_wp2_with fail
    go_ret2
    exact ⟨hb03, rfl⟩

set_option maxRecDepth 100000 in
set_option maxHeartbeats 4000000 in
theorem body_bad (A : Option Addr) (n c : Nat) (RA : Option Addr) (rn rc : Nat) (PA : Option Addr) (pn pc : Nat) (HA : Option Addr) (hn hc : Nat) (S : St) (slot k : Int) (w : World) (hR : StR w w.heap.size A n RA rn PA pn HA hn S) (hK : StK n c rn pn hn S) (hE : bodyE S slot k ≠ 0) :
    Calls Try.prog 19 #[.agg #[.slice A n c, .slice RA rn rc, .slice PA pn pc, .slice HA hn hc], .int .i64 slot, .int .i64 k] w fun e w' => Below w.heap.size w w' ∧ e = .returned (.tuple #[.int .i64 0, .int .i64 (bodyE S slot k)]) := by
  obtain ⟨-, hl2, -, -⟩ := hR.lens
  have hb1 := below_new w (.cells #[.slice A n c, .slice RA rn rc, .slice PA pn pc, .slice HA hn hc] 28)
  have DS := Blk.new w 28 #[.slice A n c, .slice RA rn rc, .slice PA pn pc, .slice HA hn hc]
  obtain ⟨s0, s1, s2, s3⟩ := DS.four
  by_cases h0 : objE S slot = 0
  · obtain ⟨hOK, k', X, s, i, rfl, hx, hO, hsp, -, -⟩ := root_obj h0
    have HOb := Lib.hid (fun w hR => object_ok A n c RA rn rc PA pn pc HA hn hc S k' X s i w hR hK hOK hx (by omega) hO)
    have hr0 := hO.ok.r0
    have hb0 := hO.ok.b0
    obtain ⟨q1, HQ1⟩ : ∃ q : Nat, Hid (q = s.r.toNat) := ⟨_, rfl⟩
    obtain ⟨q2, HQ2⟩ : ∃ q : Nat, Hid (q = s.b.toNat) := ⟨_, rfl⟩
    rw [← HQ1.out, ← HQ2.out] at HOb
    generalize s.t = t at *
    generalize (refIx (spotsL S.a) S.a s).map (Value.int .i64) = l1 at *
    generalize (bodyOf S.a s).map (Value.int .u64) = l2 at *
    have HX := Lib.hid hE
    unfold bodyE at hE HX
    unfold bodyE
    rw [if_neg (by simp [h0]), hsp] at hE ⊢
    by_cases h1 : k < 0
    · rw [if_pos (.inl h1)]
      have g1 : decide (k < 0) = true := decide_eq_true h1
      clear h1
      clear hO hOK hx hsp hE HX
      go_enter Try.func19, Try.ntmps19
      go_wp2_with fail
      refine (HOb.out _ ((hR.below hb1).more hb1.size)).mono ?_
      rintro e w2 ⟨hb2, A1, c1, A2, c2, rfl, -, -⟩
      have hb02 := below_step hb1 hb2
      have hb03 := hb02.alloc hb02.size (.cells #[.int .i64 t, .slice A1 q1 c1, .slice A2 q2 c2, .bool false] 73)
      have DS := (DS.below hb2 DS.lt).alloc (.cells #[.int .i64 t, .slice A1 q1 c1, .slice A2 q2 c2, .bool false] 73)
      have DG := Blk.new w2 73 #[.int .i64 t, .slice A1 q1 c1, .slice A2 q2 c2, .bool false]
      clear s0 s1 s2 s3
      obtain ⟨s0, s1, s2, s3⟩ := DS.four
      obtain ⟨d0, d1, d2, d3⟩ := DG.four
      go_wp2_with fail
      go_ret2
      exact ⟨hb03, rfl⟩
    · have g1 : decide (k < 0) = false := decide_eq_false h1
      obtain ⟨K, rfl⟩ := Int.eq_ofNat_of_zero_le (show 0 ≤ k by omega)
      by_cases h2 : s.b ≤ K
      · rw [if_pos (.inr h2)]
        have g2 : decide (q2 ≤ K) = true := decide_eq_true (by have := HQ1.out; have := HQ2.out; omega)
        have g2' : decide ((q2 : Int) ≤ (K : Int)) = true := decide_eq_true (by have := HQ1.out; have := HQ2.out; omega)
        clear h1 h2
        clear hO hOK hx hsp hE HX
        go_enter Try.func19, Try.ntmps19
        go_wp2_with fail
        refine (HOb.out _ ((hR.below hb1).more hb1.size)).mono ?_
        rintro e w2 ⟨hb2, A1, c1, A2, c2, rfl, -, -⟩
        have hb02 := below_step hb1 hb2
        have hb03 := hb02.alloc hb02.size (.cells #[.int .i64 t, .slice A1 q1 c1, .slice A2 q2 c2, .bool false] 73)
        have DS := (DS.below hb2 DS.lt).alloc (.cells #[.int .i64 t, .slice A1 q1 c1, .slice A2 q2 c2, .bool false] 73)
        have DG := Blk.new w2 73 #[.int .i64 t, .slice A1 q1 c1, .slice A2 q2 c2, .bool false]
        clear s0 s1 s2 s3
        obtain ⟨s0, s1, s2, s3⟩ := DS.four
        obtain ⟨d0, d1, d2, d3⟩ := DG.four
        go_wp2_with fail
        go_ret2
        exact ⟨hb03, rfl⟩
      · rw [if_neg (by omega)] at hE
        exact absurd rfl hE
  · have HOb := Lib.hid (fun w hR => object_bad A n c RA rn rc PA pn pc HA hn hc S slot w hR hK h0)
    have hX : bodyE S slot k = objE S slot := by unfold bodyE; rw [if_pos h0]
    rw [hX]
    have g1 : (objE S slot != 0) = true := by simpa using h0
    generalize objE S slot = F at *
    clear hE hX h0
    go_enter Try.func19, Try.ntmps19
    go_wp2_with fail
    refine (HOb.out _ ((hR.below hb1).more hb1.size)).mono ?_
    rintro e w2 ⟨hb2, rfl⟩
    have hb02 := below_step hb1 hb2
    have hb03 := hb02.alloc hb02.size (.cells #[.int .i64 0, .slice none 0 0, .slice none 0 0, .bool false] 73)
    go_wp2_with fail
    go_ret2
    exact ⟨hb03, rfl⟩
end Go.Proofs.Ytjdpcmmmdaffdaa

/-
  Plain law: a word of an object's refs or body is set. No program stands here.
-/
namespace Go.Proofs.Ytjdpcmmmdaffdaa
open Go.RowKit

theorem spotsF_len : ∀ (cs : List Chk) (i : Nat), (spotsFrom i cs).length = cs.length
  | [], _ => rfl
  | c :: cs, i => by simp only [spotsFrom, List.length_cons, spotsF_len cs]
theorem spotsFrom_ix : ∀ (cs : List Chk) (i0 i : Nat) (c : Chk), cs[i]? = some c → (spotsFrom i0 cs)[i]? = some (c.spot (i0 + (chunksW (cs.take i)).length))
  | [], _, _, _, h => by simp at h
  | d :: cs, i0, 0, c, h => by
    simp only [List.getElem?_cons_zero, Option.some.injEq] at h
    subst h
    simp [spotsFrom, chunksW]
  | d :: cs, i0, i + 1, c, h => by
    simp only [List.getElem?_cons_succ] at h
    have ih := spotsFrom_ix cs (i0 + d.len) i c h
    simp only [spotsFrom, List.getElem?_cons_succ, List.take_succ_cons]
    rw [ih, chunksW_cons, List.length_append, chkW_length]
    congr 2
    omega
theorem spotsFrom_set : ∀ (cs : List Chk) (i0 i : Nat) (c c' : Chk), cs[i]? = some c → c'.r = c.r → c'.b = c.b → c'.t = c.t → c'.f = c.f → c'.pay.length = c.pay.length → spotsFrom i0 (cs.set i c') = spotsFrom i0 cs
  | [], _, _, _, _, _, _, _, _, _, _ => by simp
  | d :: cs, i0, 0, c, c', h, h1, h2, h3, h4, h5 => by
    simp only [List.getElem?_cons_zero, Option.some.injEq] at h
    subst h
    simp only [List.set_cons_zero, spotsFrom, Chk.spot, Chk.len, h1, h2, h3, h4, h5]
  | d :: cs, i0, i + 1, c, c', h, h1, h2, h3, h4, h5 => by
    simp only [List.getElem?_cons_succ] at h
    simp only [List.set_cons_succ, spotsFrom, spotsFrom_set cs (i0 + d.len) i c c' h h1 h2 h3 h4 h5]
theorem chunksW_set : ∀ (cs : List Chk) (i j : Nat) (c : Chk) (v : Int), cs[i]? = some c → j < c.pay.length → chunksW (cs.set i ⟨c.r, c.b, c.t, c.f, c.pay.set j v⟩) = (chunksW cs).set ((chunksW (cs.take i)).length + 1 + j) v
  | [], _, _, _, _, h, _ => by simp at h
  | d :: cs, 0, j, c, v, h, hj => by
    simp only [List.getElem?_cons_zero, Option.some.injEq] at h
    subst h
    simp only [List.set_cons_zero, List.take_zero]
    rw [chunksW_cons, chunksW_cons, List.set_append, if_pos (by rw [chkW_length]; simp [chunksW, Chk.len]; omega)]
    congr 1
    simp only [chkW, chunksW, List.flatMap_nil, List.length_nil]
    rw [show 0 + 1 + j = j + 1 by omega, List.set_cons_succ]
  | d :: cs, i + 1, j, c, v, h, hj => by
    simp only [List.getElem?_cons_succ] at h
    have ih := chunksW_set cs i j c v h hj
    simp only [List.set_cons_succ, List.take_succ_cons]
    rw [chunksW_cons, chunksW_cons, chunksW_cons, ih, List.length_append, List.set_append, if_neg (by omega)]
    congr 2
    omega
theorem chunks_cut {cs : List Chk} {i : Nat} {c : Chk} (h : cs[i]? = some c) : cs = cs.take i ++ c :: cs.drop (i + 1) := by
  obtain ⟨q, rfl⟩ := List.getElem?_eq_some_iff.1 h
  rw [← List.drop_eq_getElem_cons q, List.take_append_drop]
theorem refs_ix {cs : List Chk} {i : Nat} {c : Chk} (hok : ∀ c ∈ cs, c.ok) (h : cs[i]? = some c) :
    refsOf (chunksW cs) (c.spot (chunksW (cs.take i)).length) = c.pay.take c.r.toNat ∧ bodyOf (chunksW cs) (c.spot (chunksW (cs.take i)).length) = c.pay.drop c.r.toNat := by
  have h1 := split_refs (cs.take i) (cs.drop (i + 1)) c (hok c (List.mem_of_getElem? h))
  rw [← chunks_cut h] at h1
  exact h1
theorem take_set_same (i : Nat) (cs : List Chk) (c : Chk) (k : Nat) (c0 : Chk) (h0 : cs[i]? = some c0) (hl : c.len = c0.len) : (chunksW ((cs.set i c).take k)).length = (chunksW (cs.take k)).length := by
  rw [List.take_set]
  by_cases hk : i < k
  · have h1 : (cs.take k)[i]? = some c0 := by rw [List.getElem?_take, if_pos hk, h0]
    generalize cs.take k = ds at *
    have h2 := chunks_cut h1
    have h3 : ds.set i c = ds.take i ++ c :: ds.drop (i + 1) := by
      obtain ⟨q, -⟩ := List.getElem?_eq_some_iff.1 h1
      rw [List.set_eq_take_append_cons_drop, if_pos q]
    rw [h3]
    conv => rhs; rw [h2]
    rw [chunksW_append, chunksW_append, chunksW_cons, chunksW_cons]
    simp only [List.length_append, chkW_length, hl]
  · rw [List.set_eq_of_length_le (by rw [List.length_take]; omega)]

/-- What stands when the word j behind the header of an object is set. -/
structure PaySet (a a' : List Int) (s : Spot) (j : Nat) (v : Int) : Prop where
  len : a'.length = a.length
  spotsE : spotsE a' = 0
  spots : spotsL a' = spotsL a
  refs : refsOf a' s = if (j : Int) < s.r then (refsOf a s).set j v else refsOf a s
  body : bodyOf a' s = if (j : Int) < s.r then bodyOf a s else (bodyOf a s).set (j - s.r.toNat) v
  other : ∀ s' ∈ spotsL a, s' ≠ s → refsOf a' s' = refsOf a s' ∧ bodyOf a' s' = bodyOf a s'
theorem pay_set {a : List Int} (h : spotsE a = 0) {s : Spot} (hs : s ∈ spotsL a) {j : Nat} (hj : (j : Int) < s.r + s.b) (v : Int) : PaySet a (a.set (s.loc.toNat + 1 + j) v) s j v := by
  obtain ⟨cs, hok, rfl, hS, hlen⟩ := arena_chunks h
  obtain ⟨i, hi⟩ := List.mem_iff_getElem?.1 hs
  rw [hS] at hi
  have hil : i < cs.length := by have := (List.getElem?_eq_some_iff.1 hi).1; rw [spotsF_len] at this; exact this
  have hc : cs[i]? = some cs[i] := List.getElem?_eq_getElem hil
  generalize cs[i] = c at hc
  have hix := spotsFrom_ix cs 0 i c hc
  rw [Nat.zero_add] at hix
  obtain rfl : c.spot (chunksW (cs.take i)).length = s := Option.some.inj (hix.symm.trans hi)
  have hcok := hok c (List.mem_of_getElem? hc)
  have hE := headE_ok.1 hcok.1
  have hjp : j < c.pay.length := by have := hcok.2; simp only [Chk.spot] at hj; omega
  have hset := chunksW_set cs i j c v hc hjp
  have hloc : (c.spot (chunksW (cs.take i)).length).loc.toNat = (chunksW (cs.take i)).length := by simp [Chk.spot]
  rw [hloc, ← hset]
  have hok' : ∀ d ∈ cs.set i ⟨c.r, c.b, c.t, c.f, c.pay.set j v⟩, d.ok := by
    intro d hd
    rcases List.mem_or_eq_of_mem_set hd with hd | rfl
    · exact hok d hd
    · exact ⟨hcok.1, by rw [List.length_set]; exact hcok.2⟩
  have hl' : (chunksW (cs.set i ⟨c.r, c.b, c.t, c.f, c.pay.set j v⟩)).length = (chunksW cs).length := by rw [hset, List.length_set]
  obtain ⟨p1, p2⟩ := chunks_spots hok' (by rw [hl']; exact hlen)
  have hS' := spotsFrom_set cs 0 i c ⟨c.r, c.b, c.t, c.f, c.pay.set j v⟩ hc rfl rfl rfl rfl (List.length_set ..)
  have hc' : (cs.set i ⟨c.r, c.b, c.t, c.f, c.pay.set j v⟩)[i]? = some ⟨c.r, c.b, c.t, c.f, c.pay.set j v⟩ := List.getElem?_set_self hil
  have hpre : ∀ k, (chunksW ((cs.set i ⟨c.r, c.b, c.t, c.f, c.pay.set j v⟩).take k)).length = (chunksW (cs.take k)).length := fun k => take_set_same i cs _ k c hc (by simp [Chk.len])
  obtain ⟨r1, r2⟩ := refs_ix hok hc
  obtain ⟨r3, r4⟩ := refs_ix hok' hc'
  rw [hpre] at r3 r4
  have hsp : Chk.spot (chunksW (cs.take i)).length ⟨c.r, c.b, c.t, c.f, c.pay.set j v⟩ = c.spot (chunksW (cs.take i)).length := rfl
  rw [hsp] at r3 r4
  dsimp only at r3 r4
  refine ⟨hl', p1, by rw [p2, hS', hS], ?_, ?_, ?_⟩
  · rw [r3, r1]
    show List.take c.r.toNat (c.pay.set j v) = if (j : Int) < c.r then (List.take c.r.toNat c.pay).set j v else List.take c.r.toNat c.pay
    split
    · rw [List.take_set]
    · rw [List.take_set, List.set_eq_of_length_le (by rw [List.length_take]; omega)]
  · rw [r4, r2]
    show List.drop c.r.toNat (c.pay.set j v) = if (j : Int) < c.r then List.drop c.r.toNat c.pay else (List.drop c.r.toNat c.pay).set (j - c.r.toNat) v
    split
    · rw [List.drop_set, if_pos (by omega)]
    · rw [List.drop_set, if_neg (by omega)]
  · intro s' hs' hne
    obtain ⟨k, hk⟩ := List.mem_iff_getElem?.1 hs'
    rw [hS] at hk
    have hkl : k < cs.length := by have := (List.getElem?_eq_some_iff.1 hk).1; rw [spotsF_len] at this; exact this
    have hd : cs[k]? = some cs[k] := List.getElem?_eq_getElem hkl
    generalize cs[k] = d at hd
    have hix2 := spotsFrom_ix cs 0 k d hd
    rw [Nat.zero_add] at hix2
    obtain rfl : d.spot (chunksW (cs.take k)).length = s' := Option.some.inj (hix2.symm.trans hk)
    have hki : i ≠ k := by
      intro e
      subst e
      obtain rfl := Option.some.inj (hd.symm.trans hc)
      exact hne rfl
    have hd' : (cs.set i ⟨c.r, c.b, c.t, c.f, c.pay.set j v⟩)[k]? = some d := by rw [List.getElem?_set_ne hki]; exact hd
    obtain ⟨t1, t2⟩ := refs_ix hok hd
    obtain ⟨t3, t4⟩ := refs_ix hok' hd'
    rw [hpre] at t3 t4
    rw [t1, t2, t3, t4]
    exact ⟨rfl, rfl⟩
theorem PaySet.check {a a' : List Int} {s : Spot} {j : Nat} {v : Int} (h : PaySet a a' s j v) (h0 : checkE a = 0) (hs : s ∈ spotsL a) (hv : (j : Int) < s.r → (placeF (spotsL a) v).isSome = true) : checkE a' = 0 := by
  obtain ⟨-, h1⟩ := checkE_ok.1 h0
  refine checkE_ok.2 ⟨h.spotsE, ?_⟩
  rw [h.spots]
  unfold refsOk at h1 ⊢
  refine List.all_eq_true.2 fun s' hs' => List.all_eq_true.2 fun x hx => ?_
  have h2 := List.all_eq_true.1 h1 s' hs'
  by_cases e : s' = s
  · subst e
    rw [h.refs] at hx
    by_cases hj : (j : Int) < s'.r
    · rw [if_pos hj] at hx
      rcases List.mem_or_eq_of_mem_set hx with hx | rfl
      · exact List.all_eq_true.1 h2 x hx
      · exact hv hj
    · rw [if_neg hj] at hx
      exact List.all_eq_true.1 h2 x hx
  · rw [(h.other s' hs' e).1] at hx
    exact List.all_eq_true.1 h2 x hx
end Go.Proofs.Ytjdpcmmmdaffdaa

/-
  Plain law: a word of a root's object is set. No program stands here.
-/
namespace Go.Proofs.Ytjdpcmmmdaffdaa
open Go.RowKit

theorem refE_zero {S : St} {slot k other : Int} (h : refE S slot k other = 0) : StOk S ∧ ∃ (k' X K O : Nat) (s : Spot) (i : Nat), slot = k' ∧ k = K ∧ other = O ∧ S.r[k']? = some (X : Int) ∧ ObjAt S X s i ∧ (K : Int) < s.r ∧ O < S.r.length := by
  unfold refE at h
  split at h
  · rename_i h0; exact absurd h h0
  · rename_i h0
    obtain ⟨hOK, k', X, s, i, rfl, hx, hO, hsp, -, -⟩ := root_obj (by simpa using h0)
    rw [hsp] at h
    split at h
    · cases h
    · split at h
      · cases h
      · exact ⟨hOK, k', X, k.toNat, other.toNat, s, i, rfl, by omega, by omega, hx, hO, by omega, by omega⟩
theorem bodyE_zero {S : St} {slot k : Int} (h : bodyE S slot k = 0) : StOk S ∧ ∃ (k' X K : Nat) (s : Spot) (i : Nat), slot = k' ∧ k = K ∧ S.r[k']? = some (X : Int) ∧ ObjAt S X s i ∧ (K : Int) < s.b := by
  unfold bodyE at h
  split at h
  · rename_i h0; exact absurd h h0
  · rename_i h0
    obtain ⟨hOK, k', X, s, i, rfl, hx, hO, hsp, -, -⟩ := root_obj (by simpa using h0)
    rw [hsp] at h
    split at h
    · cases h
    · exact ⟨hOK, k', X, k.toNat, s, i, rfl, by omega, hx, hO, by omega⟩
theorem place_begs {S : List Spot} {y : Int} (h : y = -1 ∨ y ∈ begsL S) : (placeF S (y + 1)).isSome = true := by
  rw [placeC_some]
  rcases h with rfl | h
  · exact .inl rfl
  · right
    obtain ⟨s, hs, rfl⟩ := List.mem_map.1 h
    obtain ⟨h1, h2⟩ := List.mem_filter.1 hs
    refine ⟨s, h1, ?_⟩
    unfold isPlace
    rw [h2]
    simp
/-- A root is nothing or an object. -/
theorem root_val {S : St} (hS : StOk S) {y : Int} (hy : y ∈ S.r) : (y = -1 ∨ y ∈ begsL (spotsL S.a)) ∧ -1 ≤ y ∧ y ≤ 256 := by
  obtain ⟨h1, h2, h3, h4⟩ := rootE_ok hS.roots
  have h5 := h4 y hy
  refine ⟨?_, by omega, by omega⟩
  by_cases h0 : 0 ≤ y
  · exact .inr (hS.live _ (root_at hy h0))
  · exact .inl (by omega)
/-- A store whose arena has the same objects is right. -/
theorem StOk.same {S : St} (h : StOk S) {a' : List Int} (hc : checkE a' = 0) (hl : a'.length = S.a.length) (hs : spotsL a' = spotsL S.a) : StOk ⟨a', S.r, S.p, S.l⟩ :=
  ⟨hc, by show rootE S.r a'.length = 0; rw [hl]; exact h.roots, h.pins, h.hands, fun x hx => by show x ∈ begsL (spotsL a'); rw [hs]; exact h.live x hx⟩
theorem ObjAt.same {S S' : St} {x : Int} {s : Spot} {i : Nat} (h : ObjAt S x s i) (hs : spotsL S'.a = spotsL S.a) (hS : StOk S') : ObjAt S' x s i := by
  refine ⟨?_, by rw [hs]; exact h.at_, by rw [hs]; exact h.spot, ?_, h.loc, h.free⟩
  · have := h.ix
    unfold atIx at this ⊢
    rw [hs]
    exact this
  · exact ((parse_mem (parse_ok (checkE_ok.1 hS.arena).1).2) s (by rw [hs]; exact List.mem_of_getElem? h.at_)).1
theorem put_law {S : St} (hS : StOk S) {X K : Nat} {s : Spot} {i : Nat} (hO : ObjAt S X s i) (hk : (K : Int) < s.b) (v : Int) :
    StOk ⟨S.a.set (X + 1 + s.r.toNat + K) v, S.r, S.p, S.l⟩ ∧ PaySet S.a (S.a.set (X + 1 + s.r.toNat + K) v) s (s.r.toNat + K) v := by
  have hr := hO.ok.r0
  have hm := List.mem_of_getElem? hO.at_
  have h1 := pay_set (checkE_ok.1 hS.arena).1 hm (j := s.r.toNat + K) (by omega) v
  have hloc : s.loc.toNat = X := by rw [hO.loc]; rfl
  rw [hloc, ← Nat.add_assoc] at h1
  exact ⟨hS.same (h1.check hS.arena hm (fun h => by omega)) h1.len h1.spots, h1⟩
theorem set_law {S : St} (hS : StOk S) {X K : Nat} {s : Spot} {i : Nat} (hO : ObjAt S X s i) (hk : (K : Int) < s.r) {y : Int} (hy : y = -1 ∨ y ∈ begsL (spotsL S.a)) :
    StOk ⟨S.a.set (X + 1 + K) (y + 1), S.r, S.p, S.l⟩ ∧ PaySet S.a (S.a.set (X + 1 + K) (y + 1)) s K (y + 1) := by
  have hb := hO.ok.b0
  have hm := List.mem_of_getElem? hO.at_
  have h1 := pay_set (checkE_ok.1 hS.arena).1 hm (j := K) (by omega) (y + 1)
  have hloc : s.loc.toNat = X := by rw [hO.loc]; rfl
  rw [hloc] at h1
  exact ⟨hS.same (h1.check hS.arena hm (fun _ => place_begs hy)) h1.len h1.spots, h1⟩
theorem wf_set {a : List Int} (h : ∀ x ∈ a, (Lit.int .u64 x).wf = true) {p : Nat} {v : Int} (hv : (Lit.int .u64 v).wf = true) : ∀ x ∈ a.set p v, (Lit.int .u64 x).wf = true := fun x hx => by
  rcases List.mem_or_eq_of_mem_set hx with hx | rfl
  · exact h x hx
  · exact hv
end Go.Proofs.Ytjdpcmmmdaffdaa

/-
  A store in memory: one word of its arena or roots is written.
-/
namespace Go.Proofs.Ytjdpcmmmdaffdaa
open Go.RowKit

section
variable {w w' : World} {base n c rn rc pn pc hn hc : Nat} {A RA PA HA : Option Addr} {S : St}
theorem own_some {size k d : Nat} {e : TypeId} {xs : List Value} (h : w.ownsRow base e size (.slice A k d) k xs) (hk : 0 < k) : ∃ g, A = some ⟨g, 0, none⟩ ∧ base ≤ g ∧ ∃ cur : Array Value, Blk w g e cur := by
  rcases h.2 with ⟨h, _⟩ | ⟨g, cap, cur, h, hg, hh, _⟩
  · injection h with _ h2 _
    omega
  · injection h with h1 _ _
    exact ⟨g, h1, hg, cur, hh⟩
theorem StO.setA {g p : Nat} {v : Int} (h : StO w base (some ⟨g, 0, none⟩) n c RA rn rc PA pn pc HA hn hc S) {cur : Array Value} (hB : Blk w g 35 cur) :
    StO (w.setCell ⟨g, p, none⟩ (.int .u64 v)) base (some ⟨g, 0, none⟩) n c RA rn rc PA pn pc HA hn hc ⟨S.a.set p v, S.r, S.p, S.l⟩ := by
  have h1 := (h.a.stored p (.int .u64 v)).1
  rw [← List.map_set] at h1
  exact ⟨h1, own_apart h.r (p := ⟨g, p, none⟩) (own_blk h.r hB (by decide)) _, own_apart h.p (p := ⟨g, p, none⟩) (own_blk h.p hB (by decide)) _, own_apart h.l (p := ⟨g, p, none⟩) (own_blk h.l hB (by decide)) _⟩
theorem StO.setR {g p : Nat} {v : Int} (h : StO w base A n c (some ⟨g, 0, none⟩) rn rc PA pn pc HA hn hc S) {cur : Array Value} (hB : Blk w g 3 cur) :
    StO (w.setCell ⟨g, p, none⟩ (.int .i64 v)) base A n c (some ⟨g, 0, none⟩) rn rc PA pn pc HA hn hc ⟨S.a, S.r.set p v, S.p, S.l⟩ := by
  have h1 := (h.r.stored p (.int .i64 v)).1
  rw [← List.map_set] at h1
  exact ⟨own_apart h.a (p := ⟨g, p, none⟩) (own_blk h.a hB (by decide)) _, h1, own_apart h.p (p := ⟨g, p, none⟩) (own_blk h.p hB (by decide)) _, own_apart h.l (p := ⟨g, p, none⟩) (own_blk h.l hB (by decide)) _⟩
theorem Blk.store4 {g : Nat} {t : TypeId} {a b c d : Value} (h : Blk w g t #[a, b, c, d]) (x0 x1 x2 x3 : Value) :
    Blk ((((w.setCell ⟨g, 0, none⟩ x0).setCell ⟨g, 1, none⟩ x1).setCell ⟨g, 2, none⟩ x2).setCell ⟨g, 3, none⟩ x3) g t #[x0, x1, x2, x3] := (((h.set_ 0 x0).set_ 1 x1).set_ 2 x2).set_ 3 x3
theorem Blk.far4 {g g' : Nat} {t : TypeId} {cs : Array Value} (h : Blk w g t cs) (hne : g ≠ g') (x0 x1 x2 x3 : Value) :
    Blk ((((w.setCell ⟨g', 0, none⟩ x0).setCell ⟨g', 1, none⟩ x1).setCell ⟨g', 2, none⟩ x2).setCell ⟨g', 3, none⟩ x3) g t cs := (((h.far (p := ⟨g', 0, none⟩) hne x0).far (p := ⟨g', 1, none⟩) hne x1).far (p := ⟨g', 2, none⟩) hne x2).far (p := ⟨g', 3, none⟩) hne x3
theorem Blk.four_frozen {g : Nat} {t : TypeId} {cs : Array Value} (h : Blk w g t cs) : w.frozen? ⟨g, 0, none⟩ = false ∧ w.frozen? ⟨g, 1, none⟩ = false ∧ w.frozen? ⟨g, 2, none⟩ = false ∧ w.frozen? ⟨g, 3, none⟩ = false := ⟨h.frozen 0, h.frozen 1, h.frozen 2, h.frozen 3⟩
end
end Go.Proofs.Ytjdpcmmmdaffdaa

/-
  package store: copied; package play: own.
-/
namespace Go.Proofs.Ytjdpcmmmdaffdaa
open Go.RowKit

set_option maxRecDepth 100000 in
set_option maxHeartbeats 4000000 in
theorem copied_any (A : Option Addr) (n c : Nat) (RA : Option Addr) (rn rc : Nat) (PA : Option Addr) (pn pc : Nat) (HA : Option Addr) (hn hc : Nat) (S : St) (w : World)
    (hR : StR w w.heap.size A n RA rn PA pn HA hn S) (h1 : n ≤ 1000000) (h2 : rn ≤ 1000000) (h3 : pn ≤ 1000000) (h4 : hn ≤ 1000000) :
    Calls Try.prog 20 #[.agg #[.slice A n c, .slice RA rn rc, .slice PA pn pc, .slice HA hn hc]] w fun e w' => Below w.heap.size w w' ∧ ∃ (A1 : Option Addr) (c1 : Nat) (A2 : Option Addr) (c2 : Nat) (A3 : Option Addr) (c3 : Nat) (A4 : Option Addr) (c4 : Nat),
      e = .returned (.agg #[.slice A1 n c1, .slice A2 rn c2, .slice A3 pn c3, .slice A4 hn c4]) ∧ StO w' w.heap.size A1 n c1 A2 rn c2 A3 pn c3 A4 hn c4 S := by
  have C1 := Lib.hid (fun W r hB => clone_u64 A n c w.heap.size (S.a.map (.int .u64)) W r hB (fun u hu => by obtain ⟨x, _, rfl⟩ := List.mem_map.1 hu; rfl) (by omega))
  have C2 := Lib.hid (fun W r hB => clone_int RA rn rc w.heap.size (S.r.map (.int .i64)) W r hB (ints_one _) (by omega))
  have C3 := Lib.hid (fun W r hB => clone_pin PA pn pc w.heap.size (runsC S.p) W r hB (runsC_one _) (by omega))
  have C4 := Lib.hid (fun W r hB => clone_slots HA hn hc w.heap.size (slotsC S.l) W r hB (slotsC_one _) (by omega))
  have hb0 := below_new w (.cells #[.slice A n c, .slice RA rn rc, .slice PA pn pc, .slice HA hn hc] 28)
  have hb := hb0.alloc hb0.size (.cells #[.slice none 0 0, .slice none 0 0, .slice none 0 0, .slice none 0 0] 28)
  have DS := (Blk.new w 28 #[.slice A n c, .slice RA rn rc, .slice PA pn pc, .slice HA hn hc]).alloc (.cells #[.slice none 0 0, .slice none 0 0, .slice none 0 0, .slice none 0 0] 28)
  have DR := Blk.new (w.alloc (.cells #[.slice A n c, .slice RA rn rc, .slice PA pn pc, .slice HA hn hc] 28)) 28 #[.slice none 0 0, .slice none 0 0, .slice none 0 0, .slice none 0 0]
  rw [World.size_alloc] at DR
  clear hb0
  go_enter Try.func20, Try.ntmps20
  go_upto_region 1 with fail
  have hb := hb.drew
  have DS := DS.drew
  have DR := DR.drew
  obtain ⟨s0, s1, s2, s3⟩ := DS.four
  obtain ⟨r0, r1, r2, r3⟩ := DR.four
  have f0 := DR.frozen 0
  have f1 := DR.frozen 1
  have f2 := DR.frozen 2
  have f3 := DR.frozen 3
  go_region_held3 (fun w' => w'.cell? ⟨w.heap.size, 0, none⟩ = some (.slice A n c) ∧ w'.cell? ⟨w.heap.size, 1, none⟩ = some (.slice RA rn rc) ∧ w'.cell? ⟨w.heap.size, 2, none⟩ = some (.slice PA pn pc) ∧ w'.cell? ⟨w.heap.size, 3, none⟩ = some (.slice HA hn hc)) (go_keep)
    (first
      | (go_at_call 39; (with_reducible refine (C1.out _ (hR.a.below hb) hb.size).mono ?_); rintro e wz ⟨A1, c1, rfl, oz, hbz⟩; have DS := DS.below hbz DS.lt; have DR := DR.below hbz DR.lt; obtain ⟨s0, s1, s2, s3⟩ := DS.four; obtain ⟨r0, r1, r2, r3⟩ := DR.four; have f0 := DR.frozen 0; have f1 := DR.frozen 1; have f2 := DR.frozen 2; have f3 := DR.frozen 3; (try have o1 := own_below o1 hbz); (try have o2 := own_below o2 hbz); (try have o3 := own_below o3 hbz); (try have o4 := own_below o4 hbz); have o1 := own_mono oz hb.size; clear oz; have hb := hb.trans (hbz.mono hb.size))
      | (go_at_call 40; (with_reducible refine (C2.out _ (hR.r.below hb) hb.size).mono ?_); rintro e wz ⟨A2, c2, rfl, oz, hbz⟩; have DS := DS.below hbz DS.lt; have DR := DR.below hbz DR.lt; obtain ⟨s0, s1, s2, s3⟩ := DS.four; obtain ⟨r0, r1, r2, r3⟩ := DR.four; have f0 := DR.frozen 0; have f1 := DR.frozen 1; have f2 := DR.frozen 2; have f3 := DR.frozen 3; (try have o1 := own_below o1 hbz); (try have o2 := own_below o2 hbz); (try have o3 := own_below o3 hbz); (try have o4 := own_below o4 hbz); have o2 := own_mono oz hb.size; clear oz; have hb := hb.trans (hbz.mono hb.size))
      | (go_at_call 34; (with_reducible refine (C3.out _ (hR.p.below hb) hb.size).mono ?_); rintro e wz ⟨A3, c3, rfl, oz, hbz⟩; have DS := DS.below hbz DS.lt; have DR := DR.below hbz DR.lt; obtain ⟨s0, s1, s2, s3⟩ := DS.four; obtain ⟨r0, r1, r2, r3⟩ := DR.four; have f0 := DR.frozen 0; have f1 := DR.frozen 1; have f2 := DR.frozen 2; have f3 := DR.frozen 3; (try have o1 := own_below o1 hbz); (try have o2 := own_below o2 hbz); (try have o3 := own_below o3 hbz); (try have o4 := own_below o4 hbz); have o3 := own_mono oz hb.size; clear oz; have hb := hb.trans (hbz.mono hb.size))
      | (go_at_call 41; (with_reducible refine (C4.out _ (hR.l.below hb) hb.size).mono ?_); rintro e wz ⟨A4, c4, rfl, oz, hbz⟩; have DS := DS.below hbz DS.lt; have DR := DR.below hbz DR.lt; obtain ⟨s0, s1, s2, s3⟩ := DS.four; obtain ⟨r0, r1, r2, r3⟩ := DR.four; have f0 := DR.frozen 0; have f1 := DR.frozen 1; have f2 := DR.frozen 2; have f3 := DR.frozen 3; (try have o1 := own_below o1 hbz); (try have o2 := own_below o2 hbz); (try have o3 := own_below o3 hbz); (try have o4 := own_below o4 hbz); have o4 := own_mono oz hb.size; clear oz; have hb := hb.trans (hbz.mono hb.size)))
  all_goals
    have HO := Lib.hid ((StO.mk o1 o2 o3 o4 : StO _ w.heap.size A1 n c1 A2 rn c2 A3 pn c3 A4 hn c4 S).store DR)
    clear o1 o2 o3 o4 s0 s1 s2 s3
    go_wp2_with fail
    refine bodyPost_ret (v := .agg #[.slice A1 n c1, .slice A2 rn c2, .slice A3 pn c3, .slice A4 hn c4]) ?_ rfl ⟨below_block4 hb (Nat.le_succ _) _ _ _ _, A1, c1, A2, c2, A3, c3, A4, c4, rfl, HO.out _ _ _ _⟩
    have z4 := (((DR.set_ 0 (.slice A1 n c1)).set_ 1 (.slice A2 rn c2)).set_ 2 (.slice A3 pn c3)).set_ 3 (.slice A4 hn c4)
    obtain ⟨z0, z1, z2, z3⟩ := z4.four
    simp only [results, Try.results20]
    go_simp

end Go.Proofs.Ytjdpcmmmdaffdaa
