/-
  Texts joined: StaysLaw PlayFn TopRooted TopKeepsW LawOps Bulk.
-/
import Derived.Test.YtfikonmhbhcejaaGreatDoorRows
import Derived.Test.YtfikonmhbhcejaaGreatDoorK1
import Derived.Test.YtfikonmhbhcejaaGreatDoorK6
import Derived.Test.YtfikonmhbhcejaaGreatDoorK9
import Derived.Test.YtfikonmhbhcejaaGreatDoorK11
import Derived.Test.YtfikonmhbhcejaaGreatDoorK17
import Derived.Test.YtfikonmhbhcejaaGreatDoorK18
import Derived.Test.YtfikonmhbhcejaaGreatDoorK20
import Derived.Test.YtfikonmhbhcejaaGreatDoorK21
import Derived.Test.YtfikonmhbhcejaaGreatDoorK22
namespace Go.Proofs.YtfikonmhbhcejaaGreatDoor
open Go.RowKit
structure Stays (S S' : St) : Prop where
  len : S'.a.length = S.a.length
  obj : ∀ p ∈ S.p, ∀ s i, ObjAt S p.loc s i → ∃ s' i', ObjAt S' p.loc s' i' ∧ s'.r = s.r ∧ s'.b = s.b ∧ s'.t = s.t
theorem ObjAt.arena {S S' : St} {x : Int} {s : Spot} {i : Nat} (h : ObjAt S x s i) (ha : S'.a = S.a) : ObjAt S' x s i :=
  ⟨by rw [ha]; exact h.ix, by rw [ha]; exact h.at_, by rw [ha]; exact h.spot, by rw [ha]; exact h.ok, h.loc, h.free⟩
theorem Stays.arena {S S' : St} (h : S'.a = S.a) : Stays S S' := ⟨by rw [h], fun p _ s i hO => ⟨s, i, hO.arena h, rfl, rfl, rfl⟩⟩
theorem Stays.spots {S S' : St} (hS : StOk S') (hl : S'.a.length = S.a.length) (h : spotsL S'.a = spotsL S.a) : Stays S S' := ⟨hl, fun _ _ s i hO => ⟨s, i, hO.same h hS, rfl, rfl, rfl⟩⟩
theorem Stays.trans {S T U : St} (h : Stays S T) (h' : Stays T U) (hp : T.p = S.p) : Stays S U := ⟨h'.len.trans h.len, fun p hm s i hO => by
  obtain ⟨s1, i1, hO1, e1, e2, e3⟩ := h.obj p hm s i hO
  obtain ⟨s2, i2, hO2, d1, d2, d3⟩ := h'.obj p (by rw [hp]; exact hm) s1 i1 hO1
  exact ⟨s2, i2, hO2, d1.trans e1, d2.trans e2, d3.trans e3⟩⟩
theorem Coll.stays {S S' : St} {fr : Int} {L Y now : List Int} (h : Coll S S' fr L Y now) (hS : StOk S) : Stays S S' := by
  have hC := cleaned_of h.is
  refine ⟨hC.laid.len, fun p hp s i hO => ?_⟩
  obtain ⟨s', i', hO', e1, e2, e3, -⟩ := h.obj hS (pin_at hp) hO
  rw [hC.pin p.loc (List.mem_map.2 ⟨p, hp, rfl⟩)] at hO'
  exact ⟨s', i', hO', e1, e2, e3⟩
theorem Made.stays {T T' : St} {k : Nat} {g : Rn} {r b t : Int} (h : Made T T' k g r b t) (hp : T'.p = T.p) : Stays T T' := by
  refine ⟨h.len, fun p hm s i hO => ?_⟩
  obtain ⟨s', i', hO'⟩ := obj_at h.ok (pin_at (S := T') (y := p) (by rw [hp]; exact hm))
  obtain ⟨h1, h2, h3⟩ := spotAt_some hO.spot
  obtain ⟨k1, -, -⟩ := h.keeps s h1 h2
  have h4 := spotAt_mem (checkE_ok.1 h.ok.arena).1 k1 h2
  rw [h3, hO'.spot] at h4
  obtain rfl := Option.some.inj h4
  exact ⟨s', i', hO', rfl, rfl, rfl⟩
section
variable {S : St} (hS : StGood S)
include hS
theorem sweep_stays : Stays S (sweep S).1 ∧ (sweep S).1.p = S.p := by
  by_cases hx : ∃ p : St × Int, ∃ L Y now : List Int, Coll S p.1 p.2 L Y now
  · obtain ⟨⟨S', fr⟩, L, Y, now, hC⟩ := hx
    rw [hC.sweep]
    exact ⟨hC.stays hS.ok, hC.p⟩
  · have e : sweep S = (S, 0) := dif_neg hx
    rw [e]
    exact ⟨Stays.arena rfl, rfl⟩
omit hS in
theorem Out.keep_if {R : St → Prop} {p : Prop} [Decidable p] {a b : Out} (ha : p → a.er ≠ 0) (hb : ¬ p → b.er = 0 → R b.st) : (if p then a else b).er = 0 → R (if p then a else b).st := by
  intro h
  by_cases hp : p
  · rw [if_pos hp] at h
    exact absurd h (ha hp)
  · rw [if_neg hp] at h ⊢
    exact hb hp h
omit hS in
theorem put_stays {T : St} (hT : StGood T) {r b t : Int} {k : Nat} (hE : headE r b t false = 0) (hk : k < T.r.length) (hf : fitsE (ggL T.a) (1 + r + b) = 0) : Stays T (putIn T k r b t) := by
  obtain ⟨j, g, hG⟩ := first_gap hf
  unfold putIn
  rw [hG.is]
  exact (made_of hT.ok hE hG hk).stays rfl
theorem makeO_stays (slot r b t : Int) : (makeO S slot r b t).er = 0 → Stays S (makeO S slot r b t).st ∧ (makeO S slot r b t).st.p = S.p := by
  unfold makeO
  refine Out.keep_if (R := fun T => Stays S T ∧ T.p = S.p) (fun h => h) (fun h0 => ?_)
  obtain ⟨hOK, -, hE, k, rfl, hk⟩ := makeE_zero (by simpa using h0)
  rw [Int.toNat_natCast]
  by_cases h1 : fitsE (ggL S.a) (1 + r + b) = 0
  · rw [if_pos h1]
    exact fun _ => ⟨put_stays hS hE hk h1, rfl⟩
  · rw [if_neg h1]
    by_cases h2 : fitsE (ggL (sweep S).1.a) (1 + r + b) = 0
    · rw [if_pos h2]
      obtain ⟨w1, w2⟩ := sweep_stays hS
      have hl : k < (sweep S).1.r.length := by
        by_cases hx : ∃ p : St × Int, ∃ L Y now : List Int, Coll S p.1 p.2 L Y now
        · obtain ⟨⟨S', fr⟩, L, Y, now, hC⟩ := hx
          rw [hC.sweep]
          show k < S'.r.length
          rw [hC.r, List.length_map]
          exact hk
        · have e : sweep S = (S, 0) := dif_neg hx
          rw [e]
          exact hk
      exact fun _ => ⟨w1.trans (put_stays (sweep_good hS) hE hl h2) w2, w2⟩
    · rw [if_neg h2]
      exact fun h => absurd h (show ¬ (7 : Int) = 0 by decide)
omit hS in
theorem refO_st (x y z : Int) : (refO S x y z).st.a = S.a ∧ (refO S x y z).st.p = S.p := by unfold refO; split <;> exact ⟨rfl, rfl⟩
omit hS in
theorem setO_stays (x y z : Int) : (setO S x y z).er = 0 → Stays S (setO S x y z).st ∧ (setO S x y z).st.p = S.p := by
  intro h
  have hE : refE S x y z = 0 := by
    refine Classical.byContradiction fun h0 => ?_
    unfold setO at h
    rw [if_pos h0] at h
    exact h0 h
  obtain ⟨hOK, k, X, K, O, s, i, rfl, rfl, rfl, hx, hO, hK, hz⟩ := refE_zero hE
  have hy : S.r[O]? = some S.r[O] := List.getElem?_eq_getElem hz
  obtain ⟨q1, q2, q3⟩ := root_val hOK (List.mem_of_getElem? hy)
  rw [setO_is hE hx hy]
  have hL := set_law hOK hO hK q1
  exact ⟨Stays.spots hL.1 hL.2.len hL.2.spots, rfl⟩
omit hS in
theorem putO_stays (x y v : Int) : (putO S x y v).er = 0 → Stays S (putO S x y v).st ∧ (putO S x y v).st.p = S.p := by
  intro h
  have hE : bodyE S x y = 0 := by
    refine Classical.byContradiction fun h0 => ?_
    unfold putO at h
    rw [if_pos h0] at h
    exact h0 h
  obtain ⟨hOK, k, X, K, s, i, rfl, rfl, hx, hO, hK⟩ := bodyE_zero hE
  rw [putO_is hE hx hO]
  have hL := put_law hOK hO hK v
  exact ⟨Stays.spots hL.1 hL.2.len hL.2.spots, rfl⟩
omit hS in
theorem pinO_a (x : Int) : (pinO S x).st.a = S.a := by
  unfold pinO
  split
  · rfl
  · split <;> rfl
omit hS in
theorem unpinO_a (x : Int) : (unpinO S x).st.a = S.a := by
  unfold unpinO
  split
  · rfl
  · split <;> rfl
omit hS in
theorem getO_ap (x y : Int) : (getO S x y).st = S := by unfold getO; split <;> rfl
omit hS in
theorem peekO_ap (x k : Int) : (peekO S x k).st = S := by
  unfold peekO
  split
  · rfl
  · split
    · rfl
    · split <;> rfl
omit hS in
theorem openO_ap (x : Int) : (openO S x).st.a = S.a ∧ (openO S x).st.p = S.p := by
  unfold openO
  split
  · exact ⟨rfl, rfl⟩
  · split <;> exact ⟨rfl, rfl⟩
omit hS in
theorem useO_ap (v x : Int) : (useO S v x).st.a = S.a ∧ (useO S v x).st.p = S.p := by
  unfold useO
  split
  · exact ⟨rfl, rfl⟩
  · split <;> exact ⟨rfl, rfl⟩
omit hS in
theorem shutO_ap (v : Int) : (shutO S v).st.a = S.a ∧ (shutO S v).st.p = S.p := by
  unfold shutO
  split
  · exact ⟨rfl, rfl⟩
  · split <;> exact ⟨rfl, rfl⟩
omit hS in
theorem dropO_ap (x : Int) : (dropO S x).st.a = S.a ∧ (dropO S x).st.p = S.p := by
  unfold dropO
  split <;> exact ⟨rfl, rfl⟩
theorem doO_stays (o : OpV) : (doO S o).er = 0 → Stays S (doO S o).st ∧ (o.kind ≠ 7 → o.kind ≠ 8 → (doO S o).st.p = S.p) := by
  have two : ∀ T : St, T.a = S.a ∧ T.p = S.p → Stays S T ∧ (o.kind ≠ 7 → o.kind ≠ 8 → T.p = S.p) := fun T h => ⟨Stays.arena h.1, fun _ _ => h.2⟩
  unfold doO
  by_cases h0 : rightB o = false
  · rw [if_pos h0]
    exact fun h => absurd h (show ¬ (1 : Int) = 0 by decide)
  rw [if_neg h0]
  by_cases k1 : o.kind = 1
  · rw [if_pos k1]
    exact fun h => ⟨(makeO_stays hS _ _ _ _ h).1, fun _ _ => (makeO_stays hS _ _ _ _ h).2⟩
  rw [if_neg k1]
  by_cases k2 : o.kind = 2
  · rw [if_pos k2]
    unfold collO
    refine Out.keep_if (R := fun T => Stays S T ∧ (o.kind ≠ 7 → o.kind ≠ 8 → T.p = S.p)) (fun h => h) (fun _ _ => ?_)
    obtain ⟨w1, w2⟩ := sweep_stays hS
    exact ⟨w1, fun _ _ => w2⟩
  rw [if_neg k2]
  by_cases k3 : o.kind = 3
  · rw [if_pos k3]
    exact fun _ => two _ (refO_st _ _ _)
  rw [if_neg k3]
  by_cases k4 : o.kind = 4
  · rw [if_pos k4]
    exact fun h => ⟨(setO_stays _ _ _ h).1, fun _ _ => (setO_stays _ _ _ h).2⟩
  rw [if_neg k4]
  by_cases k5 : o.kind = 5
  · rw [if_pos k5, getO_ap]
    exact fun _ => two _ ⟨rfl, rfl⟩
  rw [if_neg k5]
  by_cases k6 : o.kind = 6
  · rw [if_pos k6]
    exact fun h => ⟨(putO_stays _ _ _ h).1, fun _ _ => (putO_stays _ _ _ h).2⟩
  rw [if_neg k6]
  by_cases k7 : o.kind = 7
  · rw [if_pos k7]
    exact fun _ => ⟨Stays.arena (pinO_a _), fun h => absurd k7 h⟩
  rw [if_neg k7]
  by_cases k8 : o.kind = 8
  · rw [if_pos k8]
    exact fun _ => ⟨Stays.arena (unpinO_a _), fun _ h => absurd k8 h⟩
  rw [if_neg k8]
  by_cases k9 : o.kind = 9
  · rw [if_pos k9, peekO_ap]
    exact fun _ => two _ ⟨rfl, rfl⟩
  rw [if_neg k9]
  by_cases k10 : o.kind = 10
  · rw [if_pos k10]
    exact fun _ => two _ (openO_ap _)
  rw [if_neg k10]
  by_cases k11 : o.kind = 11
  · rw [if_pos k11]
    exact fun _ => two _ (useO_ap _ _)
  rw [if_neg k11]
  by_cases k12 : o.kind = 12
  · rw [if_pos k12]
    exact fun _ => two _ (shutO_ap _)
  rw [if_neg k12]
  exact fun _ => two _ (dropO_ap _)
end
end Go.Proofs.YtfikonmhbhcejaaGreatDoor

namespace Go.Proofs.YtfikonmhbhcejaaGreatDoor
open Go.RowKit
def opC (o : OpV) : List Value := [.int .i64 o.kind, .int .i64 o.a, .int .i64 o.b, .int .i64 o.c, .int .u64 o.v]
def opsC (l : List OpV) : List Value := l.flatMap opC
theorem opsC_length (l : List OpV) : (opsC l).length = l.length * 5 := flat_length opC 5 (fun _ => rfl) l
def toldC (t : ToldV) : List Value := [.int .i64 t.e, .int .u64 t.v]
def toldsC (l : List ToldV) : List Value := l.flatMap toldC
theorem toldsC_snoc (l : List ToldV) (t : ToldV) : toldsC (l ++ [t]) = toldsC l ++ toldC t := by simp [toldsC]
theorem info_told : (Tryz.prog.info? 71).map (fun i => (i.zero, i.size, i.bytes)) = some (some (.agg #[.int .i64 0, .int .u64 0]), 2, 16) := by kernel_rfl
theorem Reads.op {w : World} {B : Nat} {A : Option Addr} {n j : Nat} {l : List OpV} (h : Reads w B 5 A n (opsC l)) (hj : j < n) :
    ∃ ad o, A = some ad ∧ ad.block < B ∧ l[j]? = some o ∧ w.cell? (ad.add (j * 5)) = some (.int .i64 o.kind) ∧
      w.cell? ⟨(ad.add (j * 5)).block, (ad.add (j * 5)).off + 1, none⟩ = some (.int .i64 o.a) ∧ w.cell? ⟨(ad.add (j * 5)).block, (ad.add (j * 5)).off + 2, none⟩ = some (.int .i64 o.b) ∧
      w.cell? ⟨(ad.add (j * 5)).block, (ad.add (j * 5)).off + 3, none⟩ = some (.int .i64 o.c) ∧ w.cell? ⟨(ad.add (j * 5)).block, (ad.add (j * 5)).off + 4, none⟩ = some (.int .u64 o.v) := by
  obtain ⟨ad, o, e, hb, ho, h0, hi⟩ := Reads.elem (f := opC) (k := 5) (fun _ => rfl) h (by decide) hj
  exact ⟨ad, o, e, hb, ho, h0, hi 1 (by decide) (by decide), hi 2 (by decide) (by decide), hi 3 (by decide) (by decide), hi 4 (by decide) (by decide)⟩
theorem Reads.told {w : World} {B : Nat} {A : Option Addr} {n j : Nat} {l : List ToldV} (h : Reads w B 2 A n (toldsC l)) (hj : j < n) :
    ∃ ad t, A = some ad ∧ ad.block < B ∧ l[j]? = some t ∧ w.cell? (ad.add (j * 2)) = some (.int .i64 t.e) ∧ w.cell? ⟨(ad.add (j * 2)).block, (ad.add (j * 2)).off + 1, none⟩ = some (.int .u64 t.v) := by
  obtain ⟨ad, o, e, hb, ho, h0, hi⟩ := Reads.elem (f := toldC) (k := 2) (fun _ => rfl) h (by decide) hj
  exact ⟨ad, o, e, hb, ho, h0, hi 1 (by decide) (by decide)⟩
theorem StO.grown {w w' : World} {base : Nat} {A : Option Addr} {n c : Nat} {RA : Option Addr} {rn rc : Nat} {PA : Option Addr} {pn pc : Nat} {HA : Option Addr} {hn hc : Nat} {S : St} (h : StO w base A n c RA rn rc PA pn pc HA hn hc S)
    {base' size m : Nat} {e : TypeId} {v : Value} {xs : List Value} (ho : w.ownsRow base' e size v m xs) (hg : w.grownBy w' v.ownBlock) (h1 : e ≠ 44) (h2 : e ≠ 3) (h3 : e ≠ 50) (h4 : e ≠ 135) : StO w' base A n c RA rn rc PA pn pc HA hn hc S :=
  ⟨own_grown h.a hg (fun _ hg' => own_types h.a ho h1.symm hg'), own_grown h.r hg (fun _ hg' => own_types h.r ho h2.symm hg'), own_grown h.p hg (fun _ hg' => own_types h.p ho h3.symm hg'), own_grown h.l hg (fun _ hg' => own_types h.l ho h4.symm hg')⟩
theorem StO.alloc {w : World} {base : Nat} {A : Option Addr} {n c : Nat} {RA : Option Addr} {rn rc : Nat} {PA : Option Addr} {pn pc : Nat} {HA : Option Addr} {hn hc : Nat} {S : St} (h : StO w base A n c RA rn rc PA pn pc HA hn hc S) (o : Obj) : StO (w.alloc o) base A n c RA rn rc PA pn pc HA hn hc S :=
  ⟨h.a.alloc o, h.r.alloc o, h.p.alloc o, h.l.alloc o⟩
def playE (S : St) (k : Nat) : Int := if stE S ≠ 0 then stE S else if 200 < k then 2 else 0
theorem play_take {S : St} {l : List OpV} {j : Nat} {o : OpV} (ho : l[j]? = some o) : playS S (l.take (j + 1)) = nextS (playS S (l.take j)) o ∧ playT S (l.take (j + 1)) = playT S (l.take j) ++ [toldS (playS S (l.take j)) o] := by
  obtain ⟨q, rfl⟩ := List.getElem?_eq_some_iff.1 ho
  rw [List.take_succ_eq_append_getElem q, playS_app, playT_app]
  exact ⟨rfl, rfl⟩
theorem StGood.known {S : St} (h : StGood S) {w : World} {base : Nat} {A : Option Addr} {n c : Nat} {RA : Option Addr} {rn rc : Nat} {PA : Option Addr} {pn pc : Nat} {HA : Option Addr} {hn hc : Nat} (hO : StO w base A n c RA rn rc PA pn pc HA hn hc S) : StK n c rn pn hn S := hO.known h.wf
structure PlayAt (w wr : World) (S : St) (T : Option Addr) (j tc : Nat) (l : List OpV) (B1 : Option Addr) (n1 d1 : Nat) (B2 : Option Addr) (n2 d2 : Nat) (B3 : Option Addr) (n3 d3 : Nat) (B4 : Option Addr) (n4 d4 : Nat) : Prop where
  below : Below w.heap.size w wr
  cell : Blk wr w.heap.size 41 #[.slice B1 n1 d1, .slice B2 n2 d2, .slice B3 n3 d3, .slice B4 n4 d4]
  res : Blk wr (w.heap.size + 1) 41 #[.slice none 0 0, .slice none 0 0, .slice none 0 0, .slice none 0 0]
  own : StO wr w.heap.size B1 n1 d1 B2 n2 d2 B3 n3 d3 B4 n4 d4 (playS S (l.take j))
  good : StGood (playS S (l.take j))
  told : wr.ownsRow w.heap.size 71 2 (.slice T j tc) j (toldsC (playT S (l.take j)))
set_option maxRecDepth 100000 in
set_option maxHeartbeats 2000000 in
theorem play_ok (A : Option Addr) (n c : Nat) (RA : Option Addr) (rn rc : Nat) (PA : Option Addr) (pn pc : Nat) (HA : Option Addr) (hn hc : Nat) (S : St) (OA : Option Addr) (on oc : Nat) (l : List OpV) (w : World) (hR : StR w w.heap.size A n RA rn PA pn HA hn S) (hK : StK n c rn pn hn S)
    (hOK : StOk S) (hn2 : on ≤ 200) (hr : Reads w w.heap.size 5 OA on (opsC l)) (hv : ∀ o ∈ l, (Lit.int .u64 o.v).wf = true) (hT : FTab w) :
    Calls Tryz.prog 21 #[.agg #[.slice A n c, .slice RA rn rc, .slice PA pn pc, .slice HA hn hc], .slice OA on oc] w fun e w' => Below w.heap.size w w' ∧
      ∃ (B1 : Option Addr) (n1 d1 : Nat) (B2 : Option Addr) (n2 d2 : Nat) (B3 : Option Addr) (n3 d3 : Nat) (B4 : Option Addr) (n4 d4 : Nat) (T : Option Addr) (tc : Nat), e = .returned (.tuple #[.agg #[.slice B1 n1 d1, .slice B2 n2 d2, .slice B3 n3 d3, .slice B4 n4 d4], .slice T on tc, .int .i64 0]) ∧
        StO w' w.heap.size B1 n1 d1 B2 n2 d2 B3 n3 d3 B4 n4 d4 (playS S l) ∧ w'.ownsRow w.heap.size 71 2 (.slice T on tc) on (toldsC (playT S l)) := by
  obtain ⟨i0, hi, hz0, hz1, hz2⟩ := info_parts info_told
  have HCk := Lib.hid (fun w hR => stcheck_any A n c RA rn rc PA pn pc HA hn hc S w hR hK)
  rw [stE_ok.2 hOK] at HCk
  obtain ⟨y1, y2, y3, y4, -⟩ := hOK.lens
  obtain ⟨z1, z2, z3, z4⟩ := hR.lens
  have HOw := Lib.hid (fun w hR => pown_any A n c RA rn rc PA pn pc HA hn hc S w hR (by omega) (by omega) (by omega) (by omega))
  have g1 : decide (200 < on) = false := decide_eq_false (by omega)
  have g1' : decide ((200 : Int) < (on : Int)) = false := decide_eq_false (by omega)
  have HN := Lib.hid hn2
  have HG : Hid (StGood S) := ⟨hOK, hK.wf⟩
  have HV := Lib.hid hv
  have HT := Lib.hid hT
  have HL : Hid (l.length = on) := by have := hr.1; rw [opsC_length] at this; show _ = _; omega
  have hb := (below_new w (.cells #[.slice A n c, .slice RA rn rc, .slice PA pn pc, .slice HA hn hc] 41)).alloc (by simp) (.cells #[.slice none 0 0, .slice none 0 0, .slice none 0 0, .slice none 0 0] 41)
  have DS := (Blk.new w 41 #[.slice A n c, .slice RA rn rc, .slice PA pn pc, .slice HA hn hc]).alloc (.cells #[.slice none 0 0, .slice none 0 0, .slice none 0 0, .slice none 0 0] 41)
  have DR := Blk.new (w.alloc (.cells #[.slice A n c, .slice RA rn rc, .slice PA pn pc, .slice HA hn hc] 41)) 41 #[.slice none 0 0, .slice none 0 0, .slice none 0 0, .slice none 0 0]
  rw [World.size_alloc] at DR
  obtain ⟨s0, s1, s2, s3⟩ := DS.four
  clear y1 y2 y3 y4 z1 z2 z3 z4 hn2 hv hT hOK hK
  go_enter Tryz.func21, Tryz.ntmps21
  go_wp2_with fail
  refine (HCk.out _ ((hR.below hb).more hb.size)).mono ?_
  rintro e w2 ⟨rfl, hb2⟩
  have hb02 := below_step hb hb2
  have DS2 := DS.below hb2 DS.lt
  have DR2 := DR.below hb2 DR.lt
  clear s0 s1 s2 s3 hb hb2 DS DR HCk
  obtain ⟨s0, s1, s2, s3⟩ := DS2.four
  go_wp2_with fail
  refine (HOw.out _ ((hR.below hb02).more hb02.size)).mono ?_
  rintro e w3 ⟨hb3, B1, d1, B2, d2, B3, d3, B4, d4, rfl, hO⟩
  have hb03 := below_step hb02 hb3
  have DS3 := DS2.below hb3 DS2.lt
  have DR3 := DR2.below hb3 DR2.lt
  clear s0 s1 s2 s3
  obtain ⟨s0, s1, s2, s3⟩ := DS3.four
  obtain ⟨f0, f1, f2, f3⟩ := DS3.four_frozen
  have hO3 := (hO.mono hb02.size).store DS3 (.slice B1 n d1) (.slice B2 rn d2) (.slice B3 pn d3) (.slice B4 hn d4)
  have hb04 := below_block4 (g := w.heap.size) hb03 (Nat.le_refl _) (.slice B1 n d1) (.slice B2 rn d2) (.slice B3 pn d3) (.slice B4 hn d4)
  have DS4 := DS3.store4 (.slice B1 n d1) (.slice B2 rn d2) (.slice B3 pn d3) (.slice B4 hn d4)
  have DR4 := DR3.far4 (g' := w.heap.size) (by omega) (.slice B1 n d1) (.slice B2 rn d2) (.slice B3 pn d3) (.slice B4 hn d4)
  clear DS2 DR2 hb02 hb3 hO DS3 DR3 hb03
  go_wp2_with fail
  clear s0 s1 s2 s3 f0 f1 f2 f3
  go_loopw [8, 31] (fun o i wr => ∃ (j : Nat) (T : Option Addr) (tc : Nat) (B1 : Option Addr) (n1 d1 : Nat) (B2 : Option Addr) (n2 d2 : Nat) (B3 : Option Addr) (n3 d3 : Nat) (B4 : Option Addr) (n4 d4 : Nat), j ≤ on ∧ i = .int .i64 j ∧ o = .slice T j tc ∧ PlayAt w wr S T j tc l B1 n1 d1 B2 n2 d2 B3 n3 d3 B4 n4 d4) (fun _ i _ => on - (intOf i).toNat)
  case atStart => exact ⟨0, none, 0, B1, n, d1, B2, rn, d2, B3, pn, d3, B4, hn, d4, Nat.zero_le _, rfl, rfl, ⟨hb04, DS4, DR4, hO3, HG.out, World.ownsRow_nil _ _ _ _⟩⟩
  case round =>
    clear hb04 DS4 DR4 hO3
    obtain ⟨j, T, tc, G1, n1, p1, G2, n2, p2, G3, n3, p3, G4, n4, p4, hj, rfl, rfl, hP⟩ := hrel
    by_cases hlt : j < on
    · obtain ⟨ad, o, rfl, had, ho, c0, c1, c2, c3, c4⟩ := (hr.below hP.below).op hlt
      have HX := Lib.hid (play_take (S := S) ho)
      have hvo := HV.out o (List.mem_of_getElem? ho)
      have hv0 : 0 ≤ o.v ∧ o.v < 18446744073709551616 := by simp [Lit.wf, IntKind.min, IntKind.max, IntKind.signed, IntKind.bits] at hvo; omega
      have HDo := Lib.hid (fun w hR hT => do_any G1 n1 p1 G2 n2 p2 G3 n3 p3 G4 n4 p4 (playS S (l.take j)) o w hR (hP.good.known hP.own) hT hv0.1 hv0.2)
      have HGd := Lib.hid (nextS_good hP.good o hvo)
      obtain ⟨S1, hS1⟩ : ∃ S1, S1 = playS S (l.take j) := ⟨_, rfl⟩
      have hPo := hP.own
      have hPt := hP.told
      rw [← hS1] at HDo HGd hPo HX
      obtain ⟨X, hX⟩ : ∃ X, X = doO S1 o := ⟨_, rfl⟩
      rw [← hX] at HDo
      have HN1 : Hid ((X.er = 0 → nextS S1 o = X.st) ∧ (X.er ≠ 0 → nextS S1 o = S1) ∧ toldS S1 o = ⟨X.er, X.told⟩ ∧ (X.er ≠ 0 → X.told = 0)) := by
        show _ ∧ _
        rw [hX]
        exact ⟨fun h => if_pos h, fun h => if_neg h, rfl, doO_told S1 o⟩
      obtain ⟨L1, hL1⟩ : ∃ L1, L1 = playT S (l.take j) := ⟨_, rfl⟩
      rw [← hL1] at HX hPt
      have DS := hP.cell
      have DR := hP.res
      have hbr := hP.below
      have hba := hbr.alloc hbr.size (.cells #[.int .i64 o.kind, .int .i64 o.a, .int .i64 o.b, .int .i64 o.c, .int .u64 o.v] 46)
      have DSa := DS.alloc (.cells #[.int .i64 o.kind, .int .i64 o.a, .int .i64 o.b, .int .i64 o.c, .int .u64 o.v] 46)
      have DRa := DR.alloc (.cells #[.int .i64 o.kind, .int .i64 o.a, .int .i64 o.b, .int .i64 o.c, .int .u64 o.v] 46)
      have hOa := hPo.alloc (.cells #[.int .i64 o.kind, .int .i64 o.a, .int .i64 o.b, .int .i64 o.c, .int .u64 o.v] 46)
      have hTa := hPt.alloc (.cells #[.int .i64 o.kind, .int .i64 o.a, .int .i64 o.b, .int .i64 o.c, .int .u64 o.v] 46)
      have DO := Blk.new wr 46 #[.int .i64 o.kind, .int .i64 o.a, .int .i64 o.b, .int .i64 o.c, .int .u64 o.v]
      have hj200 : j < 200 := by have := HN.out; omega
      obtain ⟨s0, s1, s2, s3⟩ := DSa.four
      obtain ⟨k0, k1, k2, k3, k4⟩ := DO.five
      clear hP hvo hv0 hS1 hX hL1 hPo hPt DS DR hbr DO ho
      go_wp2_with fail
      refine (HDo.out _ hOa.reads (HT.out.below hba)).mono ?_
      rintro e w5 ⟨hb5, ⟨hz, E1, m1, e1, E2, m2, e2, E3, m3, e3, E4, m4, e4, rfl, hO⟩ | ⟨hnz, rfl⟩⟩
      · have hb05 := below_step hba hb5
        have hb06 := hb05.alloc hb05.size (.cells #[.slice E1 m1 e1, .slice E2 m2 e2, .slice E3 m3 e3, .slice E4 m4 e4] 41)
        have DN := Blk.new w5 41 #[.slice E1 m1 e1, .slice E2 m2 e2, .slice E3 m3 e3, .slice E4 m4 e4]
        have DS6 := (DSa.below hb5 DSa.lt).alloc (.cells #[.slice E1 m1 e1, .slice E2 m2 e2, .slice E3 m3 e3, .slice E4 m4 e4] 41)
        have DR6 := (DRa.below hb5 DRa.lt).alloc (.cells #[.slice E1 m1 e1, .slice E2 m2 e2, .slice E3 m3 e3, .slice E4 m4 e4] 41)
        have hO6 := (hO.mono hba.size).alloc (.cells #[.slice E1 m1 e1, .slice E2 m2 e2, .slice E3 m3 e3, .slice E4 m4 e4] 41)
        have hT6 := (own_below hTa hb5).alloc (.cells #[.slice E1 m1 e1, .slice E2 m2 e2, .slice E3 m3 e3, .slice E4 m4 e4] 41)
        obtain ⟨vt, hvt⟩ : ∃ v, v = X.told := ⟨_, rfl⟩
        rw [← hvt]
        have HVT := Lib.hid hvt
        have HZ := Lib.hid hz
        have DS7 := DS6.store4 (.slice E1 m1 e1) (.slice E2 m2 e2) (.slice E3 m3 e3) (.slice E4 m4 e4)
        have DR7 := DR6.far4 (g' := w.heap.size) (by omega) (.slice E1 m1 e1) (.slice E2 m2 e2) (.slice E3 m3 e3) (.slice E4 m4 e4)
        have hO7 := hO6.store DS6 (.slice E1 m1 e1) (.slice E2 m2 e2) (.slice E3 m3 e3) (.slice E4 m4 e4)
        have hT7 := own_block4 hT6 DS6 (by decide) (.slice E1 m1 e1) (.slice E2 m2 e2) (.slice E3 m3 e3) (.slice E4 m4 e4)
        have hb07 := below_block4 (g := w.heap.size) hb06 (Nat.le_refl _) (.slice E1 m1 e1) (.slice E2 m2 e2) (.slice E3 m3 e3) (.slice E4 m4 e4)
        have hnew := reads_new (((((w5.alloc (.cells #[.slice E1 m1 e1, .slice E2 m2 e2, .slice E3 m3 e3, .slice E4 m4 e4] 41)).setCell ⟨w.heap.size, 0, none⟩ (.slice E1 m1 e1)).setCell ⟨w.heap.size, 1, none⟩ (.slice E2 m2 e2)).setCell ⟨w.heap.size, 2, none⟩ (.slice E3 m3 e3)).setCell ⟨w.heap.size, 3, none⟩ (.slice E4 m4 e4)) (toldC ⟨0, vt⟩) 71 1 2 rfl
        have hsz : (((((w5.alloc (.cells #[.slice E1 m1 e1, .slice E2 m2 e2, .slice E3 m3 e3, .slice E4 m4 e4] 41)).setCell ⟨w.heap.size, 0, none⟩ (.slice E1 m1 e1)).setCell ⟨w.heap.size, 1, none⟩ (.slice E2 m2 e2)).setCell ⟨w.heap.size, 2, none⟩ (.slice E3 m3 e3)).setCell ⟨w.heap.size, 3, none⟩ (.slice E4 m4 e4)).heap.size = w5.heap.size + 1 := by simp
        rw [hsz] at hnew
        clear hsz
        have hT8 := hT7.alloc (.cells #[.int .i64 0, .int .u64 vt] 71)
        have hO8 := hO7.alloc (.cells #[.int .i64 0, .int .u64 vt] 71)
        have DS8 := DS7.alloc (.cells #[.int .i64 0, .int .u64 vt] 71)
        have DR8 := DR7.alloc (.cells #[.int .i64 0, .int .u64 vt] 71)
        have hb08 := hb07.alloc hb07.size (.cells #[.int .i64 0, .int .u64 vt] 71)
        have hbs := hb08.size
        clear s0 s1 s2 s3 k0 k1 k2 k3 k4 DSa DRa hOa hTa HDo hb5 hb05 hO hvt DR6 hO6 hT6 hb06 hba hz DS7 DR7 hO7 hT7 hb07
        obtain ⟨s0, s1, s2, s3⟩ := DS6.four
        obtain ⟨f0, f1, f2, f3⟩ := DS6.four_frozen
        obtain ⟨q0, q1, q2, q3⟩ := DN.four
        clear DS6 DN
        go_wp2_with (at_builtin; refine wpList_append_any _ rfl (.tmp 45) (.tmp 49) 58 rfl w.heap.size 71 i0 _ 2 16 Tryz.underlying58 hi hz0 hz1 hz2 rfl (by decide) (.slice T j tc) j _ rfl hT8 _ (some ⟨w5.heap.size + 1, 0, none⟩) 1 1 (toldC ⟨0, vt⟩) rfl hnew (by simp [toldC, Value.oneCell']) (by unfold maxLen; omega) (by omega) hbs ?_; rintro v' w7 hO9 hg9 - -; obtain ⟨T', tc', rfl⟩ := own_slice hO9)
        have hb9 := hb08.grown hg9 hbs (fun g hg => (hT8.lt g hg).1)
        have DS9 := DS8.grown hg9 (fun h => own_blk_ne hT8 DS8 (by decide) h.symm)
        have DR9 := DR8.grown hg9 (fun h => own_blk_ne hT8 DR8 (by decide) h.symm)
        have hO10 := hO8.grown hT8 hg9 (by decide) (by decide) (by decide) (by decide)
        have HO9 := Lib.hid hO9
        clear s0 s1 s2 s3 f0 f1 f2 f3 q0 q1 q2 q3 hT8 hO8 DS8 DR8 hb08 hbs hnew hg9 hO9
        go_roundw
        case rel => exact ⟨j + 1, T', tc', E1, m1, e1, E2, m2, e2, E3, m3, e3, E4, m4, e4, by omega, by go_num, rfl, ⟨hb9, DS9, DR9, by rw [HX.out.1, HN1.out.1 HZ.out]; exact hO10, by rw [HX.out.1]; exact HGd.out, by rw [HX.out.2, toldsC_snoc, HN1.out.2.2.1, HZ.out, ← HVT.out]; exact HO9.out⟩⟩
        case measure => simp [intOf]; omega
      · have hb05 := below_step hba hb5
        have hb06 := hb05.alloc hb05.size (.cells #[.slice none 0 0, .slice none 0 0, .slice none 0 0, .slice none 0 0] 41)
        have DS6 := (DSa.below hb5 DSa.lt).alloc (.cells #[.slice none 0 0, .slice none 0 0, .slice none 0 0, .slice none 0 0] 41)
        have DR6 := (DRa.below hb5 DRa.lt).alloc (.cells #[.slice none 0 0, .slice none 0 0, .slice none 0 0, .slice none 0 0] 41)
        have hO6 := (hOa.below hb5).alloc (.cells #[.slice none 0 0, .slice none 0 0, .slice none 0 0, .slice none 0 0] 41)
        have hT6 := (own_below hTa hb5).alloc (.cells #[.slice none 0 0, .slice none 0 0, .slice none 0 0, .slice none 0 0] 41)
        obtain ⟨ev, hev⟩ : ∃ v, v = X.er := ⟨_, rfl⟩
        rw [← hev]
        have HEV := Lib.hid hev
        have HNZ := Lib.hid hnz
        have g9 : (ev == 0) = false := by rw [hev]; simpa using hnz
        have hnew := reads_new (w5.alloc (.cells #[.slice none 0 0, .slice none 0 0, .slice none 0 0, .slice none 0 0] 41)) (toldC ⟨ev, 0⟩) 71 1 2 rfl
        rw [World.size_alloc] at hnew
        have hT8 := hT6.alloc (.cells #[.int .i64 ev, .int .u64 0] 71)
        have hO8 := hO6.alloc (.cells #[.int .i64 ev, .int .u64 0] 71)
        have DS8 := DS6.alloc (.cells #[.int .i64 ev, .int .u64 0] 71)
        have DR8 := DR6.alloc (.cells #[.int .i64 ev, .int .u64 0] 71)
        have hb08 := hb06.alloc hb06.size (.cells #[.int .i64 ev, .int .u64 0] 71)
        have hbs := hb08.size
        clear s0 s1 s2 s3 k0 k1 k2 k3 k4 DSa DRa hOa hTa HDo hb5 hb05 hev DS6 DR6 hO6 hT6 hb06 hba hnz
        go_wp2_with (at_builtin; refine wpList_append_any _ rfl (.tmp 45) (.tmp 49) 58 rfl w.heap.size 71 i0 _ 2 16 Tryz.underlying58 hi hz0 hz1 hz2 rfl (by decide) (.slice T j tc) j _ rfl hT8 _ (some ⟨w5.heap.size + 1, 0, none⟩) 1 1 (toldC ⟨ev, 0⟩) rfl hnew (by simp [toldC, Value.oneCell']) (by unfold maxLen; omega) (by omega) hbs ?_; rintro v' w7 hO9 hg9 - -; obtain ⟨T', tc', rfl⟩ := own_slice hO9)
        have hb9 := hb08.grown hg9 hbs (fun g hg => (hT8.lt g hg).1)
        have DS9 := DS8.grown hg9 (fun h => own_blk_ne hT8 DS8 (by decide) h.symm)
        have DR9 := DR8.grown hg9 (fun h => own_blk_ne hT8 DR8 (by decide) h.symm)
        have hO10 := hO8.grown hT8 hg9 (by decide) (by decide) (by decide) (by decide)
        have HO9 := Lib.hid hO9
        clear hT8 hO8 DS8 DR8 hb08 hbs hnew hg9 hO9 g9
        go_roundw
        case rel => exact ⟨j + 1, T', tc', G1, n1, p1, G2, n2, p2, G3, n3, p3, G4, n4, p4, by omega, by go_num, rfl, ⟨hb9, DS9, DR9, by rw [HX.out.1, HN1.out.2.1 HNZ.out]; exact hO10, by rw [HX.out.1]; exact HGd.out, by rw [HX.out.2, toldsC_snoc, HN1.out.2.2.1, HN1.out.2.2.2 HNZ.out, ← HEV.out]; exact HO9.out⟩⟩
        case measure => simp [intOf]; omega
    · obtain rfl : j = on := by omega
      have htk : l.take j = l := List.take_of_length_le (by rw [HL.out]; exact Nat.le_refl _)
      have hPo := hP.own
      have hPt := hP.told
      rw [htk] at hPo hPt
      have DS := hP.cell
      have DR := hP.res
      have hb5 := hP.below
      obtain ⟨s0, s1, s2, s3⟩ := DS.four
      obtain ⟨r0, r1, r2, r3⟩ := DR.four
      obtain ⟨f0, f1, f2, f3⟩ := DR.four_frozen
      clear hP htk
      go_wp2_with fail
      refine bodyPost_ret (v := .tuple #[.agg #[.slice G1 n1 p1, .slice G2 n2 p2, .slice G3 n3 p3, .slice G4 n4 p4], .slice T j tc, .int .i64 0]) ?_ rfl ⟨below_block4 (g := w.heap.size + 1) hb5 (Nat.le_succ _) _ _ _ _, G1, n1, p1, G2, n2, p2, G3, n3, p3, G4, n4, p4, T, tc, rfl, hPo.store DR _ _ _ _, own_block4 hPt DR (by decide) _ _ _ _⟩
      obtain ⟨z0, z1, z2, z3⟩ := (DR.store4 (.slice G1 n1 p1) (.slice G2 n2 p2) (.slice G3 n3 p3) (.slice G4 n4 p4)).four
      simp only [results, Tryz.results21]
      go_simp
end Go.Proofs.YtfikonmhbhcejaaGreatDoor

namespace Go.Proofs.YtfikonmhbhcejaaGreatDoor
open Go.RowKit
def trootsL (r : List Int) : List Int := r.filter (fun v => decide (0 ≤ v))
theorem trootsL_snoc (r : List Int) (x : Int) : trootsL (r ++ [x]) = trootsL r ++ (if 0 ≤ x then [x] else []) := by
  unfold trootsL
  rw [List.filter_append]
  by_cases h : 0 ≤ x <;> simp [h]
theorem tpinsL_snoc (p : List Rn) (x : Rn) : pinsL (p ++ [x]) = pinsL p ++ [x.loc] := by unfold pinsL; rw [List.map_append]; rfl
set_option maxRecDepth 100000 in
set_option maxHeartbeats 2000000 in
theorem trooted_any (A : Option Addr) (n c : Nat) (RA : Option Addr) (rn rc : Nat) (PA : Option Addr) (pn pc : Nat) (HA : Option Addr) (hn hc : Nat) (S : St) (w : World)
    (hR : StR w w.heap.size A n RA rn PA pn HA hn S) (h1 : rn ≤ 1000) (h2 : pn ≤ 1000) (h3 : hn ≤ 1000) :
    Calls Tryz.prog 24 #[.agg #[.slice A n c, .slice RA rn rc, .slice PA pn pc, .slice HA hn hc]] w fun e w' => ∃ A' c', e = .returned (.slice A' (rootedL S).length c') ∧
      w'.ownsRow w.heap.size 3 1 (.slice A' (rootedL S).length c') (rootedL S).length ((rootedL S).map (.int .i64)) ∧ Below w.heap.size w w' := by
  obtain ⟨i0, hi, hz0, hz1, hz2⟩ := info_parts info_int
  obtain ⟨-, l2, l3, l4⟩ := hR.lens
  have hrr := hR.r
  have hrp := hR.p
  have hrl := hR.l
  have HT : Hid (rootedL S = (trootsL S.r ++ openL S.l) ++ pinsL S.p) := rfl
  generalize rootedL S = T at *
  obtain ⟨a, r, p, l⟩ := S
  dsimp only at l2 l3 l4 hrr hrp hrl HT
  have HL2 := Lib.hid l2
  have HL3 := Lib.hid l3
  have HL4 := Lib.hid l4
  have hb0 := below_new w (.cells #[.slice A n c, .slice RA rn rc, .slice PA pn pc, .slice HA hn hc] 41)
  have DS := Blk.new w 41 #[.slice A n c, .slice RA rn rc, .slice PA pn pc, .slice HA hn hc]
  obtain ⟨s0, s1, s2, s3⟩ := DS.four
  clear l2 l3 l4 hR
  go_enter Tryz.func24, Tryz.ntmps24
  go_wp2_with fail
  clear s0 s1 s2 s3
  go_loopw [3, 13] (fun o i wr => ∃ (j : Nat) (A' : Option Addr) (k c' : Nat), j ≤ rn ∧ i = .int .i64 j ∧ o = .slice A' k c' ∧ k ≤ 0 + j ∧ Hid (k = (trootsL (r.take j)).length) ∧ wr.ownsRow (w.heap.size + 1) 3 1 (.slice A' k c') k ((trootsL (r.take j)).map (.int .i64)) ∧ Below w.heap.size w wr ∧ Blk wr w.heap.size 41 #[.slice A n c, .slice RA rn rc, .slice PA pn pc, .slice HA hn hc]) (fun _ i _ => rn - (intOf i).toNat)
  case atStart => exact ⟨0, none, 0, 0, Nat.zero_le _, rfl, rfl, Nat.le_refl _, rfl, World.ownsRow_nil _ _ _ _, hb0, DS⟩
  case round =>
    obtain ⟨j, A', k, c', hj, rfl, rfl, hkj, hk, hown, hb, DS⟩ := hrel
    clear hb0
    by_cases hlt : j < rn
    · obtain ⟨ad, x, rfl, had, hx, cx⟩ := (hrr.below hb).num hlt
      have HQ : Hid (trootsL (r.take (j + 1)) = trootsL (r.take j) ++ (if 0 ≤ x then [x] else [])) := by
        show _ = _
        obtain ⟨g1, rfl⟩ := List.getElem?_eq_some_iff.1 hx
        rw [List.take_succ_eq_append_getElem g1, trootsL_snoc]
      clear hx
      generalize hLk : trootsL (r.take j) = Lk at *
      clear hLk
      have hown1 := hown
      have hb1 := hb
      have DS1 := DS
      by_cases h0 : 0 ≤ x
      · have g0 : decide (0 ≤ x) = true := decide_eq_true h0
        have HQ : Hid (trootsL (r.take (j + 1)) = Lk ++ [x]) := by have := HQ.out; rw [if_pos h0] at this; exact this
        clear h0
        have hown2 := hown1.alloc (.cells #[.int .i64 x] 3)
        have hb2 := hb1.alloc hb1.size (.cells #[.int .i64 x] 3)
        have DS2 := DS1.alloc (.cells #[.int .i64 x] 3)
        have hnew := reads_new (wr) [.int .i64 x] 3 1 1 rfl
        clear hown hown1 hb hb1 DS DS1
        go_wp2_with (at_builtin; refine wpList_append_any _ rfl (.tmp 19) (.tmp 21) 36 rfl (w.heap.size + 1) 3 i0 (.int .i64 0) 1 8 Tryz.underlying36 hi hz0 hz1 hz2 rfl (by decide) (.slice A' k c') k _ rfl hown2 _ (some ⟨wr.heap.size, 0, none⟩) 1 1 [.int .i64 x] rfl hnew (by simp [Value.oneCell']) (by unfold maxLen; omega) (by omega) (by have := DS2.lt; omega) ?_; rintro v' w5 hO5 hg5 - -; obtain ⟨A5, c5, rfl⟩ := own_slice hO5)
        have hb3 := hb2.grown hg5 hb2.size (fun g hg => by have := (hown2.lt g hg).1; omega)
        have DS3 := DS2.grown hg5 (fun h => own_off hown2 (Nat.lt_succ_self _) h.symm)
        have HO := Lib.hid hO5
        clear hO5 hown2 hg5 hnew hb2
        go_roundw
        case rel => exact ⟨j + 1, A5, k + 1, c5, by omega, by go_num, rfl, by omega, by show _ = _; rw [HQ.out, List.length_append, ← hk.out]; rfl, by rw [HQ.out, List.map_append]; exact HO.out, hb3, DS3⟩
        case measure => simp [intOf]; omega
      · have g0 : decide (0 ≤ x) = false := decide_eq_false h0
        have HQ : Hid (trootsL (r.take (j + 1)) = Lk) := by have := HQ.out; rw [if_neg h0, List.append_nil] at this; exact this
        clear h0
        go_wp2_with fail
        go_roundw
        case rel => exact ⟨j + 1, A', k, c', by omega, by go_num, rfl, by omega, by rw [HQ.out]; exact hk, by rw [HQ.out]; exact hown, hb, DS⟩
        case measure => simp [intOf]; omega
    · have hjn : rn = j := by omega
      have e : r.take j = r := List.take_of_length_le (by rw [HL2.out]; omega)
      rw [e] at hk hown
      obtain rfl : k = (trootsL r).length := hk.out
      clear hk e
      subst hjn
      obtain ⟨s0, s1, s2, s3⟩ := DS.four
      generalize hRR : trootsL r = R at *
      have HRR := Lib.hid hRR
      clear hRR
      have hR0 : R ++ openL (l.take 0) = R := by simp [openL]
      go_wp2_with fail
      clear s0 s1 s2 s3
      go_loopw [3, 27] (fun o i wr => ∃ (j : Nat) (A' : Option Addr) (k c' : Nat), j ≤ hn ∧ i = .int .i64 j ∧ o = .slice A' k c' ∧ k ≤ 1000 + j ∧ Hid (k = (R ++ openL (l.take j)).length) ∧ wr.ownsRow (w.heap.size + 1) 3 1 (.slice A' k c') k ((R ++ openL (l.take j)).map (.int .i64)) ∧ Below w.heap.size w wr ∧ Blk wr w.heap.size 41 #[.slice A n c, .slice RA rn rc, .slice PA pn pc, .slice HA hn hc]) (fun _ i _ => hn - (intOf i).toNat)
      case atStart => exact ⟨0, A', R.length, c', Nat.zero_le _, rfl, rfl, by omega, by show _ = _; rw [hR0], by rw [hR0]; exact hown, hb, DS⟩
      case round =>
        clear hown hb DS hkj hR0
        obtain ⟨j, A', k, c', hj, rfl, rfl, hkj, hk, hown, hb, DS⟩ := hrel
        by_cases hlt : j < hn
        · obtain ⟨ad, y, rfl, had, hx, q0, q1, q2⟩ := (hrl.below hb).slot hlt
          have HQ : Hid (R ++ openL (l.take (j + 1)) = (R ++ openL (l.take j)) ++ (if y.opn = true then [y.loc] else [])) := by
            show _ = _
            obtain ⟨g1, rfl⟩ := List.getElem?_eq_some_iff.1 hx
            rw [List.take_succ_eq_append_getElem g1, openL_snoc, List.append_assoc]
          clear hx
          obtain ⟨gen, opn, x⟩ := y
          dsimp only at q0 q1 q2 HQ
          generalize hLk : R ++ openL (l.take j) = Lk at *
          clear hLk
          have hb1 := hb.alloc hb.size (.cells #[.int .i64 gen, .bool opn, .int .i64 x] 135)
          have hown1 := hown.alloc (.cells #[.int .i64 gen, .bool opn, .int .i64 x] 135)
          have DS1 := DS.alloc (.cells #[.int .i64 gen, .bool opn, .int .i64 x] 135)
          cases opn
          · have HQ : Hid (R ++ openL (l.take (j + 1)) = Lk) := by have := HQ.out; show _ = _; simpa using this
            go_wp2_with fail
            go_roundw
            case rel => exact ⟨j + 1, A', k, c', by omega, by go_num, rfl, by omega, by rw [HQ.out]; exact hk, by rw [HQ.out]; exact hown1, hb1, DS1⟩
            case measure => simp [intOf]; omega
          · have HQ : Hid (R ++ openL (l.take (j + 1)) = Lk ++ [x]) := by have := HQ.out; show _ = _; simpa using this
            have hown2 := hown1.alloc (.cells #[.int .i64 x] 3)
            have hb2 := hb1.alloc hb1.size (.cells #[.int .i64 x] 3)
            have DS2 := DS1.alloc (.cells #[.int .i64 x] 3)
            have hnew := reads_new (wr.alloc (.cells #[.int .i64 gen, .bool true, .int .i64 x] 135)) [.int .i64 x] 3 1 1 rfl
            rw [World.size_alloc] at hnew
            clear hown hown1 hb hb1 DS DS1
            go_wp2_with (at_builtin; refine wpList_append_any _ rfl (.tmp 33) (.tmp 36) 36 rfl (w.heap.size + 1) 3 i0 (.int .i64 0) 1 8 Tryz.underlying36 hi hz0 hz1 hz2 rfl (by decide) (.slice A' k c') k _ rfl hown2 _ (some ⟨wr.heap.size + 1, 0, none⟩) 1 1 [.int .i64 x] rfl hnew (by simp [Value.oneCell']) (by unfold maxLen; omega) (by omega) (by have := DS2.lt; omega) ?_; rintro v' w5 hO5 hg5 - -; obtain ⟨A5, c5, rfl⟩ := own_slice hO5)
            have hb3 := hb2.grown hg5 hb2.size (fun g hg => by have := (hown2.lt g hg).1; omega)
            have DS3 := DS2.grown hg5 (fun h => own_off hown2 (Nat.lt_succ_self _) h.symm)
            have HO := Lib.hid hO5
            clear hO5 hown2 hg5 hnew hb2
            go_roundw
            case rel => exact ⟨j + 1, A5, k + 1, c5, by omega, by go_num, rfl, by omega, by show _ = _; rw [HQ.out, List.length_append, ← hk.out]; rfl, by rw [HQ.out, List.map_append]; exact HO.out, hb3, DS3⟩
            case measure => simp [intOf]; omega
        · have hjn : hn = j := by omega
          have e : l.take j = l := List.take_of_length_le (by rw [HL4.out]; omega)
          rw [e] at hk hown
          obtain rfl : k = (R ++ openL l).length := hk.out
          clear hk e
          subst hjn
          obtain ⟨s0, s1, s2, s3⟩ := DS.four
          generalize hQQ : R ++ openL l = Q at *
          have HQQ := Lib.hid hQQ
          clear hQQ
          have hQ0 : Q ++ pinsL (p.take 0) = Q := by simp [pinsL]
          go_wp2_with fail
          clear s0 s1 s2 s3
          go_loopw [3, 42] (fun o i wr => ∃ (j : Nat) (A' : Option Addr) (k c' : Nat), j ≤ pn ∧ i = .int .i64 j ∧ o = .slice A' k c' ∧ k ≤ 2000 + j ∧ Hid (k = (Q ++ pinsL (p.take j)).length) ∧ wr.ownsRow (w.heap.size + 1) 3 1 (.slice A' k c') k ((Q ++ pinsL (p.take j)).map (.int .i64)) ∧ Below w.heap.size w wr ∧ Blk wr w.heap.size 41 #[.slice A n c, .slice RA rn rc, .slice PA pn pc, .slice HA hn hc]) (fun _ i _ => pn - (intOf i).toNat)
          case atStart => exact ⟨0, A', Q.length, c', Nat.zero_le _, rfl, rfl, by omega, by show _ = _; rw [hQ0], by rw [hQ0]; exact hown, hb, DS⟩
          case round =>
            clear hown hb DS hkj hQ0
            obtain ⟨j, A', k, c', hj, rfl, rfl, hkj, hk, hown, hb, DS⟩ := hrel
            by_cases hlt : j < pn
            · obtain ⟨ad, y, rfl, had, hx, q0, q1⟩ := (hrp.below hb).run hlt
              have HQ : Hid (Q ++ pinsL (p.take (j + 1)) = (Q ++ pinsL (p.take j)) ++ [y.loc]) := by
                show _ = _
                obtain ⟨g1, rfl⟩ := List.getElem?_eq_some_iff.1 hx
                rw [List.take_succ_eq_append_getElem g1, tpinsL_snoc, List.append_assoc]
              clear hx
              obtain ⟨x, y⟩ := y
              dsimp only at q0 q1 HQ
              generalize hLk : Q ++ pinsL (p.take j) = Lk at *
              clear hLk
              have hb1 := hb.alloc hb.size (.cells #[.int .i64 x, .int .i64 y] 50)
              have hown1 := hown.alloc (.cells #[.int .i64 x, .int .i64 y] 50)
              have DS1 := DS.alloc (.cells #[.int .i64 x, .int .i64 y] 50)
              have hown2 := hown1.alloc (.cells #[.int .i64 x] 3)
              have hb2 := hb1.alloc hb1.size (.cells #[.int .i64 x] 3)
              have DS2 := DS1.alloc (.cells #[.int .i64 x] 3)
              have hnew := reads_new (wr.alloc (.cells #[.int .i64 x, .int .i64 y] 50)) [.int .i64 x] 3 1 1 rfl
              rw [World.size_alloc] at hnew
              clear hown hown1 hb hb1 DS DS1
              go_wp2_with (at_builtin; refine wpList_append_any _ rfl (.tmp 46) (.tmp 49) 36 rfl (w.heap.size + 1) 3 i0 (.int .i64 0) 1 8 Tryz.underlying36 hi hz0 hz1 hz2 rfl (by decide) (.slice A' k c') k _ rfl hown2 _ (some ⟨wr.heap.size + 1, 0, none⟩) 1 1 [.int .i64 x] rfl hnew (by simp [Value.oneCell']) (by unfold maxLen; omega) (by omega) (by have := DS2.lt; omega) ?_; rintro v' w5 hO5 hg5 - -; obtain ⟨A5, c5, rfl⟩ := own_slice hO5)
              have hb3 := hb2.grown hg5 hb2.size (fun g hg => by have := (hown2.lt g hg).1; omega)
              have DS3 := DS2.grown hg5 (fun h => own_off hown2 (Nat.lt_succ_self _) h.symm)
              have HO := Lib.hid hO5
              clear hO5 hown2 hg5 hnew hb2
              go_roundw
              case rel => exact ⟨j + 1, A5, k + 1, c5, by omega, by go_num, rfl, by omega, by show _ = _; rw [HQ.out, List.length_append, ← hk.out]; rfl, by rw [HQ.out, List.map_append]; exact HO.out, hb3, DS3⟩
              case measure => simp [intOf]; omega
            · have hjn : j = pn := by omega
              have e : p.take j = p := List.take_of_length_le (by rw [HL3.out]; omega)
              rw [e] at hk hown
              have HTT : Hid (T = Q ++ pinsL p) := by show _ = _; rw [HT.out, ← HQQ.out, ← HRR.out]
              rw [← HTT.out] at hk hown
              obtain rfl : k = T.length := hk.out
              have hown := own_mono hown (Nat.le_succ _)
              clear hk e HTT
              go_wp2_with fail
              go_ret
              exact ⟨A', c', rfl, hown, hb⟩
end Go.Proofs.YtfikonmhbhcejaaGreatDoor

namespace Go.Proofs.YtfikonmhbhcejaaGreatDoor
open Go.RowKit
theorem playS_len : ∀ (l : List OpV) {S : St}, StGood S → (∀ o ∈ l, (Lit.int .u64 o.v).wf = true) → (playS S l).a.length = S.a.length
  | [], _, _, _ => rfl
  | o :: l, S, h, hl => by
    have hn := nextS_good h o (hl o List.mem_cons_self)
    show (playS (nextS S o) l).a.length = _
    rw [playS_len l hn (fun x hx => hl x (List.mem_cons_of_mem _ hx))]
    unfold nextS
    split
    · rename_i h0
      exact (doO_stays h o h0).1.len
    · rfl
theorem newSt_len (W R H : Int) (h : newE W R H = 0) : ((newSt W.toNat R.toNat H.toNat).a.length : Int) = W := by
  show ((newA W.toNat).length : Int) = W
  rw [newA_length]
  unfold newE at h
  split at h
  · cases h
  · omega
set_option maxRecDepth 100000 in
set_option maxHeartbeats 1000000 in
theorem topKeeps_bad (W R H : Int) (OA : Option Addr) (on oc : Nat) (w : World) (hT : DTab w.heap.size w) (hbad : newE W R H ≠ 0 ∨ 200 < on) :
    Calls Tryz.prog 6 #[.int .i64 W, .int .i64 R, .int .i64 H, .slice OA on oc] w fun e w' => e = .returned (.bool true) ∧ Below w.heap.size w w' := by
  have HN := Lib.hid (newFn_one W R H w)
  have HWk := Lib.hid (fun w1 (hb : Below w.heap.size w w1) => works_true w1 (hT.up hb))
  generalize newE W R H = E at *
  clear hT
  go_enter Tryz.func6, Tryz.ntmps6
  go_wp2_with fail
  refine HN.out.mono ?_
  rintro e w1 ⟨hb1, B1, m1, f1, B2, m2, f2, B3, m3, f3, B4, m4, f4, rfl, -⟩
  have hb2 := hb1.alloc hb1.size (.cells #[.slice B1 m1 f1, .slice B2 m2 f2, .slice B3 m3 f3, .slice B4 m4 f4] 41)
  go_wp2_with fail
  refine (HWk.out _ hb2).mono ?_
  rintro e w2 ⟨rfl, hb3⟩
  have hb03 := below_step hb2 hb3
  by_cases hE : E = 0
  · have g1 : (E != 0) = false := by simpa using hE
    have g2 : decide (200 < on) = true := decide_eq_true (by omega)
    have g2' : decide ((200 : Int) < (on : Int)) = true := decide_eq_true (by omega)
    clear hE hbad
    go_wp2_with fail
    refine (HWk.out _ hb03).mono ?_
    rintro e w3 ⟨rfl, hb4⟩
    go_wp2_with fail
    go_ret
    exact ⟨rfl, below_step hb03 hb4⟩
  · have g1 : (E != 0) = true := by simpa using hE
    clear hE hbad
    go_wp2_with fail
    refine (HWk.out _ hb03).mono ?_
    rintro e w3 ⟨rfl, hb4⟩
    go_wp2_with fail
    go_ret
    exact ⟨rfl, below_step hb03 hb4⟩
set_option maxRecDepth 100000 in
set_option maxHeartbeats 4000000 in
theorem topKeeps_ok (W R H : Int) (OA : Option Addr) (on oc : Nat) (l : List OpV) (w : World) (hr : Reads w w.heap.size 5 OA on (opsC l)) (hv : ∀ o ∈ l, (Lit.int .u64 o.v).wf = true) (hT : DTab w.heap.size w) (hE : newE W R H = 0) (hn2 : on ≤ 200) :
    Calls Tryz.prog 6 #[.int .i64 W, .int .i64 R, .int .i64 H, .slice OA on oc] w fun e w' => e = .returned (.bool true) ∧ Below w.heap.size w w' := by
  have HN := Lib.hid (newFn_one W R H w)
  have HWk := Lib.hid (fun w1 (hb : Below w.heap.size w w1) => works_true w1 (hT.up hb))
  have hG0 := newE_good hE
  have hWl := newSt_len W R H hE
  rw [hE] at HN
  obtain ⟨S0, hS0⟩ : ∃ S0, S0 = newSt W.toNat R.toNat H.toNat := ⟨_, rfl⟩
  rw [← hS0] at HN hG0 hWl
  have HG0 := Lib.hid hG0
  have HWl := Lib.hid hWl
  have HT := Lib.hid hT
  have HVv := Lib.hid hv
  have HRo := Lib.hid hr
  have g2 : decide (200 < on) = false := decide_eq_false (by omega)
  have g2' : decide ((200 : Int) < (on : Int)) = false := decide_eq_false (by omega)
  have HN2 := Lib.hid hn2
  clear hT hG0 hWl hS0 hE hv hr hn2
  go_enter Tryz.func6, Tryz.ntmps6
  go_wp2_with fail
  refine HN.out.mono ?_
  rintro e w1 ⟨hb1, B1, m1, f1, B2, m2, f2, B3, m3, f3, B4, m4, f4, rfl, HO⟩
  have hO := HO.out (by first | rfl | trivial)
  have hb2 := hb1.alloc hb1.size (.cells #[.slice B1 m1 f1, .slice B2 m2 f2, .slice B3 m3 f3, .slice B4 m4 f4] 41)
  have D0 := Blk.new w1 41 #[.slice B1 m1 f1, .slice B2 m2 f2, .slice B3 m3 f3, .slice B4 m4 f4]
  have hO := hO.belowS (below_new w1 (.cells #[.slice B1 m1 f1, .slice B2 m2 f2, .slice B3 m3 f3, .slice B4 m4 f4] 41))
  clear HO HN
  go_wp2_with fail
  refine (HWk.out _ hb2).mono ?_
  rintro e w2 ⟨rfl, hb3⟩
  have hb03 := below_step hb2 hb3
  have D0 := D0.below hb3 D0.lt
  have hO := hO.belowS hb3
  obtain ⟨s0, s1, s2, s3⟩ := D0.four
  have HPl := Lib.hid (play_ok B1 m1 f1 B2 m2 f2 B3 m3 f3 B4 m4 f4 S0 OA on oc l w2 hO.reads (hO.known HG0.out.wf) HG0.out.ok HN2.out ((HRo.out.below hb03).more hb03.size) HVv.out (HT.out.on hb03).f)
  clear HWk
  go_wp2_with fail
  refine HPl.out.mono ?_
  rintro e w3 ⟨hb4, A, n, c, RA, rn, rc, PA, pn, pc, HA, hn, hc, TA, tc, rfl, hOx, -⟩
  have hb04 := below_step hb03 hb4
  have hGx := playS_good l HG0.out HVv.out
  have hlx := playS_len l HG0.out HVv.out
  obtain ⟨S, hS⟩ : ∃ S, S = playS S0 l := ⟨_, rfl⟩
  rw [← hS] at hOx hGx hlx
  have hb1 := hb04.alloc hb04.size (.cells #[.slice A n c, .slice RA rn rc, .slice PA pn pc, .slice HA hn hc] 41)
  have DS := Blk.new w3 41 #[.slice A n c, .slice RA rn rc, .slice PA pn pc, .slice HA hn hc]
  have hOx := hOx.belowS (below_new w3 (.cells #[.slice A n c, .slice RA rn rc, .slice PA pn pc, .slice HA hn hc] 41))
  obtain ⟨V, hV⟩ : ∃ V, V = w3.alloc (.cells #[.slice A n c, .slice RA rn rc, .slice PA pn pc, .slice HA hn hc] 41) := ⟨_, rfl⟩
  have HVe := Lib.hid hV
  rw [← hV] at hb1 DS hOx
  have hR := hOx.reads
  have hK : StK n c rn pn hn S := hOx.known hGx.wf
  have H3 := Lib.hid (collectFn_any A n c RA rn rc PA pn pc HA hn hc S V hR hK)
  have HL := Lib.hid hR.lens
  have HK := Lib.hid hK
  have HLx : Hid ((n : Int) = W) := by
    show _ = _
    rw [← hR.lens.1, hlx]
    exact HWl.out
  have hOKs := hGx.ok
  obtain ⟨gx, hgx⟩ : ∃ gx, gx = w3.heap.size := ⟨_, rfl⟩
  rw [← hgx] at DS
  have HGx := Lib.hid hgx
  have hlt3 : gx < V.heap.size := DS.lt
  have hst0 := stE_ok.2 hOKs
  clear hK hS hV hlx hGx hO HPl hOx hb04 hb03 hb2 hb3 hb4 D0 s0 s1 s2 s3 hgx
  obtain ⟨s0, s1, s2, s3⟩ := DS.four
  go_wp2_with fail
  rw [← HVe.out, ← HGx.out]
  refine H3.out.mono ?_
  rintro e wX ⟨hb3, ⟨hOK, S', fr, L, Y, now, A1, c1, A2, c2, A3, c3, A4, c4, hC, rfl, hO⟩ | ⟨h0, -⟩⟩
  · have hb02 := hb1
    have hb03 := below_step hb02 hb3
    have hb04 := hb03.alloc hb03.size (.cells #[.slice A1 n c1, .slice A2 rn c2, .slice A3 pn c3, .slice A4 hn c4] 41)
    have hb3g := hb3.alloc hb3.size (.cells #[.slice A1 n c1, .slice A2 rn c2, .slice A3 pn c3, .slice A4 hn c4] 41)
    have DG := Blk.new wX 41 #[.slice A1 n c1, .slice A2 rn c2, .slice A3 pn c3, .slice A4 hn c4]
    have DS := (DS.below hb3 DS.lt).alloc (.cells #[.slice A1 n c1, .slice A2 rn c2, .slice A3 pn c3, .slice A4 hn c4] 41)
    have hK2 := hO.known (hC.wf HK.out.wf)
    have hR2 := (hO.below (below_new wX (.cells #[.slice A1 n c1, .slice A2 rn c2, .slice A3 pn c3, .slice A4 hn c4] 41))).reads
    have hR1 := (hR.below hb3g).more hb3g.size
    have hOK2 := hC.ok hOK
    obtain ⟨z1, z2, z3, z4⟩ := HL.out
    obtain ⟨y1, y2, y3, y4, y5⟩ := hOK.lens
    obtain ⟨v1, v2, v3, v4⟩ := hR2.lens
    obtain ⟨u1, u2, u3, u4, u5⟩ := hOK2.lens
    obtain ⟨f0, f1, f2, f3, -⟩ := hC.free
    have HRs := Lib.hid (fun w hR => trooted_any A n c RA rn rc PA pn pc HA hn hc S w hR (by omega) (by omega) (by omega))
    have HRx := Lib.hid (fun w hR => trooted_any A1 n c1 A2 rn c2 A3 pn c3 A4 hn c4 S' w hR (by omega) (by omega) (by omega))
    obtain ⟨k1, hk1⟩ : ∃ k, k = (rootedL S).length := ⟨_, rfl⟩
    obtain ⟨k2, hk2⟩ : ∃ k, k = (rootedL S').length := ⟨_, rfl⟩
    rw [← hk1] at HRs
    rw [← hk2] at HRx
    have hAl := fun (As : Option Addr) (cs : Nat) (Ax : Option Addr) (cx : Nat) (w : World) (hr hr2 hr3 hr4) => alike_any A n c S.a As k1 cs (rootedL S) A1 n c1 S'.a Ax k2 cx (rootedL S') w hr HK.out.cap HK.out.wf hr2 (by omega) hOK.wfr hr3 hK2.cap hK2.wf hr4 (by omega) hOK2.wfr
    have HAl := Lib.hid (fun (As : Option Addr) (cs : Nat) (Ax : Option Addr) (cx : Nat) (w : World) (hr hr2 hr3 hr4) => (show Calls Tryz.prog 23 #[.slice A n c, .slice As k1 cs, .slice A1 n c1, .slice Ax k2 cx] w fun e w' => Below w.heap.size w w' ∧ e = .returned (.tuple #[.bool true, .int .i64 0]) by
      refine (hAl As cs Ax cx w hr hr2 hr3 hr4).mono ?_
      rintro e w' ⟨hb, ⟨-, -, os, fo, os', fo', h1, h2, rfl⟩ | ⟨hno, -⟩⟩
      · obtain ⟨rfl, rfl⟩ := hC.alike hOK h1 h2
        exact ⟨hb, by simp⟩
      · exact absurd ⟨hOK.alive, hOK2.alive⟩ hno))
    have HWd := Lib.hid (fun (Ax : Option Addr) (cx : Nat) (w : World) (hr hr2) => twords_ok A1 n c1 S'.a Ax k2 cx (rootedL S') Y w hr hK2.cap hK2.wf hr2 (by omega) hOK2.wfr hOK2.arena (hC.reached hOK))
    rw [hC.longs] at HWd
    obtain ⟨v, hv⟩ : ∃ v : Nat, longsL (spotsL S.a) L = v := ⟨(longsL (spotsL S.a) L).toNat, by omega⟩
    rw [hv] at HWd
    obtain ⟨f, rfl⟩ : ∃ f : Nat, fr = f := ⟨fr.toNat, by omega⟩
    have hwa : IntKind.i64.wrap ((v : Int) + f) = W := (IntWalk.i64_in _ (by omega)).trans (by have := HLx.out; omega)
    have HCk := Lib.hid (fun w hR => stcheck_any A1 n c1 A2 rn c2 A3 pn c3 A4 hn c4 S' w hR hK2)
    rw [stE_ok.2 hOK2] at HCk
    obtain ⟨W0, hW0⟩ : ∃ W0, W0 = wX.alloc (.cells #[.slice A1 n c1, .slice A2 rn c2, .slice A3 pn c3, .slice A4 hn c4] 41) := ⟨_, rfl⟩
    rw [← hW0] at hR1 hR2 hb04 DG DS
    obtain ⟨gy, hgy⟩ : ∃ gy, gy = wX.heap.size := ⟨_, rfl⟩
    rw [← hgy] at DG
    have HGy := Lib.hid hgy
    have hOKa := hOK2
    have HW0 := Lib.hid hW0
    clear hO hOK hC hOK2 hK2 hAl hW0 z1 z2 z3 z4 y1 y2 y3 y4 y5 v1 v2 v3 v4 u1 u2 u3 u4 u5 f0 f1 f2 f3 hv hk1 hk2 s0 s1 s2 s3 hb1 hb3 hb3g hb02 hb03 hgy hOKa hOKs
    go_upto_region 6 with fail
    rw [← HW0.out, ← HGy.out]
    go_cut [17, 18] from 21 to 102 (fun s6 s7 wc => s6 = .bool true ∧ s7 = .int .i64 0 ∧ Below W0.heap.size W0 wc)
    case first =>
      have hb := Below.refl W0.heap.size W0 |>.drew
      have DS := DS.drew
      have DG := DG.drew
      obtain ⟨s0, s1, s2, s3⟩ := DS.four
      obtain ⟨o0, o1, o2, o3⟩ := DG.four
      go_region_held3 (fun w' => (w'.cell? ⟨gx, 0, none⟩ = some (.slice A n c) ∧ w'.cell? ⟨gx, 1, none⟩ = some (.slice RA rn rc) ∧ w'.cell? ⟨gx, 2, none⟩ = some (.slice PA pn pc) ∧ w'.cell? ⟨gx, 3, none⟩ = some (.slice HA hn hc)) ∧ w'.cell? ⟨gy, 0, none⟩ = some (.slice A1 n c1) ∧ w'.cell? ⟨gy, 1, none⟩ = some (.slice A2 rn c2) ∧ w'.cell? ⟨gy, 2, none⟩ = some (.slice A3 pn c3) ∧ w'.cell? ⟨gy, 3, none⟩ = some (.slice A4 hn c4)) (go_keep)
        (first
          | (go_at_call 24; (with_reducible refine (HRs.out _ ((hR1.below hb).more hb.size)).mono ?_); rintro e wA ⟨As, cs, rfl, hoS, hbA⟩; have DS := DS.below hbA DS.lt; have DG := DG.below hbA DG.lt; obtain ⟨s0, s1, s2, s3⟩ := DS.four; obtain ⟨o0, o1, o2, o3⟩ := DG.four; (try have hoX := own_below hoX hbA); have hb := hb.trans (hbA.mono hb.size))
          | (go_at_call 24; (with_reducible refine (HRx.out _ ((hR2.below hb).more hb.size)).mono ?_); rintro e wB ⟨Ax, cx, rfl, hoX, hbB⟩; have DS := DS.below hbB DS.lt; have DG := DG.below hbB DG.lt; obtain ⟨s0, s1, s2, s3⟩ := DS.four; obtain ⟨o0, o1, o2, o3⟩ := DG.four; (try have hoS := own_below hoS hbB); have hb := hb.trans (hbB.mono hb.size))
          | (go_at_call 23; (with_reducible refine (HAl.out As cs Ax cx _ ((hR1.a.below hb).more hb.size) (Reads.of_own hoS) ((hR2.a.below hb).more hb.size) (Reads.of_own hoX)).mono ?_); rintro e wC ⟨hbC, rfl⟩; have DS := DS.below hbC DS.lt; have DG := DG.below hbC DG.lt; obtain ⟨s0, s1, s2, s3⟩ := DS.four; obtain ⟨o0, o1, o2, o3⟩ := DG.four; have hb := hb.trans (hbC.mono hb.size)))
      all_goals
        go_wp2_with fail
        go_meet
        exact ⟨rfl, rfl, hb⟩
    case rest =>
      obtain ⟨rfl, rfl, hbc⟩ := hcut
      have DS := DS.below hbc DS.lt
      have DG := DG.below hbc DG.lt
      have hR2c := (hR2.below hbc).more hbc.size
      have hb5 := hb04.trans (hbc.mono hb04.size)
      clear HAl HRs
      go_upto_region 7 with fail
      go_cut [19, 20] from 21 to 102 (fun s8 s9 wd => s8 = .int .i64 v ∧ s9 = .int .i64 0 ∧ Below wc.heap.size wc wd)
      case first =>
        have hb := Below.refl wc.heap.size wc |>.drew
        have DG := DG.drew
        obtain ⟨o0, o1, o2, o3⟩ := DG.four
        go_region_held3 (fun w' => w'.cell? ⟨gy, 0, none⟩ = some (.slice A1 n c1) ∧ w'.cell? ⟨gy, 1, none⟩ = some (.slice A2 rn c2) ∧ w'.cell? ⟨gy, 2, none⟩ = some (.slice A3 pn c3) ∧ w'.cell? ⟨gy, 3, none⟩ = some (.slice A4 hn c4)) (go_keep)
          (first
            | (go_at_call 24; (with_reducible refine (HRx.out _ ((hR2c.below hb).more hb.size)).mono ?_); rintro e wB ⟨Ax, cx, rfl, hoX, hbB⟩; have DG := DG.below hbB DG.lt; obtain ⟨o0, o1, o2, o3⟩ := DG.four; have hb := hb.trans (hbB.mono hb.size))
            | (go_at_call 25; (with_reducible refine (HWd.out Ax cx _ ((hR2c.a.below hb).more hb.size) (Reads.of_own hoX)).mono ?_); rintro e wC ⟨hbC, rfl⟩; have DG := DG.below hbC DG.lt; obtain ⟨o0, o1, o2, o3⟩ := DG.four; have hb := hb.trans (hbC.mono hb.size)))
        all_goals
          go_wp2_with fail
          go_meet
          exact ⟨rfl, rfl, hb⟩
      case rest =>
        obtain ⟨rfl, rfl, hbd⟩ := hcut
        have DSd := DS.below hbd DS.lt
        have DGd := DG.below hbd DG.lt
        have hb6 := below_step hb5 hbd
        have hR1d := (((hR1.below hbc).more hbc.size).below hbd).more hbd.size
        have HCx := Lib.hid (fun w hR => stcheck_any A n c RA rn rc PA pn pc HA hn hc S w hR HK.out)
        rw [hst0] at HCx
        have HRd := Lib.hid hR1d
        obtain ⟨s0, s1, s2, s3⟩ := DSd.four
        clear hR1d hR2c hR1 hR2 hbc hbd hR hb5 DSd DGd DS DG hst0
        go_wp2_with fail
        refine Calls.mono (HCx.out _ (by exact ⟨HRd.out.a, HRd.out.r, HRd.out.p, HRd.out.l⟩)) ?_
        rintro e w7 ⟨rfl, hb8⟩
        have hb9 := below_step hb6 hb8
        go_wp2_with fail
        go_ret
        exact ⟨by first | rfl | simp, hb9⟩
  · exact absurd hst0 h0
end Go.Proofs.YtfikonmhbhcejaaGreatDoor

namespace Go.Proofs.YtfikonmhbhcejaaGreatDoor
open Go.ChangeShapes Go.WideShapes Go.ChangeAt Go.RowKit Go.Joins Go.Deep
instance : Inhabited OpV := ⟨⟨0, 0, 0, 0, 0⟩⟩
theorem open_elemsW {α : Type} [Inhabited α] (f : α → List Value) (Q : α → Prop) (k : Nat) (hk0 : 0 < k) (hf : ∀ a, (f a).length = k) {H : Type} {enc : TypeId × Value → H} {P : Program} {t e : TypeId} {W : World} {r : Reach} {base : Nat} {sp : Nat → Bool} {v : Value} {d : DataW H} {ps : List MemPlace}
    (ht : P.underlying t = some (.slice e)) (hc : P.cellsOf e = k) (hel : ∀ n cs y, DataW.trod enc P W 0 sp true n e cs = some y → ∃ a, cs = f a ∧ Q a)
    (hval : Value.okWide P W r base t v) (hlt : ∀ x ∈ ps, x.block < W.heap.size) (h : DataW.Trod enc P W 0 sp true t v d ps) :
    ∃ (A : Option Addr) (n c : Nat) (l : List α), v = .slice A n c ∧ n ≤ c ∧ c ≤ maxLen ∧ Reads W W.heap.size k A n (l.flatMap f) ∧ l.length = n ∧ (∀ a ∈ l, Q a) ∧ (A = none → c = 0) := by
  obtain ⟨a0, len0, cap0, rfl⟩ := okWide_slice ht hval
  obtain ⟨fuel, hf'⟩ := h
  rcases open_slice ht hf' with ⟨hcs, hx⟩ | ⟨a, len, cap, m, n, D, Pl, hcs, hb, hlc, hm, hmm, hx, hcell⟩
  · simp [Value.cells] at hcs
    obtain ⟨rfl, rfl, rfl⟩ := hcs
    exact ⟨none, 0, 0, [], rfl, Nat.le_refl _, Nat.zero_le _, Reads.none_, rfl, (fun a ha => by cases ha), fun _ => rfl⟩
  · simp [Value.cells] at hcs
    obtain ⟨rfl, rfl, rfl⟩ := hcs
    simp only [Prod.mk.injEq] at hx
    obtain ⟨rfl, rfl⟩ := hx
    have hlm : len0 ≤ m := by rw [hmm]; split <;> omega
    rw [hc] at hcell hlt
    obtain ⟨V, hV⟩ := choose_lt (α := α) (p := fun i x => W.cells? 0 (a.add (i * k)) k = some (f x) ∧ Q x) (fun i hi => by
      obtain ⟨cs', h1, h2⟩ := hcell i hi
      obtain ⟨x, rfl, hq⟩ := hel _ _ _ h2
      exact ⟨x, h1, hq⟩)
    refine ⟨some a, len0, cap0, (List.range len0).map V, rfl, hlc, hm, ⟨by rw [flat_length f k hf]; simp, fun hn => ⟨a, rfl, ?_, fun j u hu => ?_⟩⟩, by simp, fun y hy => by
      obtain ⟨i, hi, rfl⟩ := List.mem_map.1 hy
      exact (hV i (by have := List.mem_range.1 hi; omega)).2, fun h => by cases h⟩
    · have := hlt (.cell a.block (a.off + 0)) (List.mem_append_left _ (by
        unfold MemPlace.row
        refine List.mem_map.2 ⟨0, List.mem_range.2 ?_, rfl⟩
        exact Nat.mul_pos (by omega) hk0))
      exact this
    · have hj : j < len0 * k := by
        have := (List.getElem?_eq_some_iff.1 hu).1
        rw [flat_length f k hf] at this
        simpa using this
      have hq : j / k < len0 := Nat.div_lt_of_lt_mul (by rw [Nat.mul_comm]; exact hj)
      have hr : j % k < k := Nat.mod_lt _ hk0
      have hjd : j / k * k + j % k = j := by rw [Nat.mul_comm]; exact Nat.div_add_mod j k
      rw [← hjd, flat_at f k hf _ _ _ (by simpa using hq) hr] at hu
      simp only [List.getElem_map, List.getElem_range] at hu
      have := (World.cells?_some (hV (j / k) (by omega)).1).2.2 (j % k) hr
      rw [add_of_add, hjd] at this
      rw [this]
      exact hu
theorem trod_struct5o {H : Type} {enc : TypeId × Value → H} {P : Program} {w : World} {base : Nat} {spare : Nat → Bool} {held : Bool} {t : TypeId} {f0 f1 f2 f3 f4 : Field} {fuel : Nat} {cs : List Value} {x : DataW H × List MemPlace} (ht : P.underlying t = some (.struct #[f0, f1, f2, f3, f4])) (h : DataW.trod enc P w base spare held fuel t cs = some x) :
    ∃ y0 y1 y2 y3 y4 n, cs.length = P.cellsOf t ∧ DataW.trod enc P w base spare held n f0.type ((cs.drop f0.offset).take (P.cellsOf f0.type)) = some y0 ∧
      DataW.trod enc P w base spare held n f1.type ((cs.drop f1.offset).take (P.cellsOf f1.type)) = some y1 ∧ DataW.trod enc P w base spare held n f2.type ((cs.drop f2.offset).take (P.cellsOf f2.type)) = some y2 ∧
      DataW.trod enc P w base spare held n f3.type ((cs.drop f3.offset).take (P.cellsOf f3.type)) = some y3 ∧ DataW.trod enc P w base spare held n f4.type ((cs.drop f4.offset).take (P.cellsOf f4.type)) = some y4 := by
  obtain ⟨xs, n, _, rfl, hl, hlen, hf⟩ := DataW.trod_struct ht h
  match xs, hlen with
  | [y0, y1, y2, y3, y4], _ => exact ⟨y0, y1, y2, y3, y4, n, hl, by simpa using hf 0 _ rfl, by simpa using hf 1 _ rfl, by simpa using hf 2 _ rfl, by simpa using hf 3 _ rfl, by simpa using hf 4 _ rfl⟩
theorem list5o {α : Type} {l : List α} (h : l.length = 5) : ∃ a b c d e, l = [a, b, c, d, e] := by
  match l, h with
  | [a, b, c, d, e], _ => exact ⟨a, b, c, d, e, rfl⟩
set_option maxRecDepth 100000 in
theorem open_ops {H : Type} {enc : TypeId × Value → H} {W : World} {r : Reach} {base : Nat} {sp : Nat → Bool} {v : Value} {d : DataW H} {ps : List MemPlace}
    (hval : Value.okWide Tryz.prog W r base 34 v) (hlt : ∀ x ∈ ps, x.block < W.heap.size) (h : DataW.Trod enc Tryz.prog W 0 sp true 34 v d ps) :
    ∃ (A : Option Addr) (n c : Nat) (l : List OpV), v = .slice A n c ∧ n ≤ c ∧ c ≤ maxLen ∧ Reads W W.heap.size 5 A n (opsC l) ∧ (∀ o ∈ l, (Lit.int .u64 o.v).wf = true) ∧ (A = none → c = 0) := by
  have k0 : Tryz.prog.cellsOf 3 = 1 := by kernel_rfl
  have k4 : Tryz.prog.cellsOf 44 = 1 := by kernel_rfl
  obtain ⟨A, n, c, l, h1, h2, h3, h4, -, h5⟩ := open_elemsW opC (fun o => (Lit.int .u64 o.v).wf = true) 5 (by decide) (fun _ => rfl) Tryz.underlying34 (by kernel_rfl) (fun n cs y hy => by
    obtain ⟨y0, y1, y2, y3, y4, m, hl, a0, a1, a2, a3, a4⟩ := trod_struct5o Tryz.underlying46 hy
    have hl2 : cs.length = 5 := hl.trans (by kernel_rfl)
    obtain ⟨c0, c1, c2, c3, c4, rfl⟩ := list5o hl2
    dsimp only at a0 a1 a2 a3 a4
    rw [k0] at a0 a1 a2 a3
    rw [k4] at a4
    obtain ⟨x0, q0, -, -⟩ := DataW.trod_int Tryz.underlying3 a0
    obtain ⟨x1, q1, -, -⟩ := DataW.trod_int Tryz.underlying3 a1
    obtain ⟨x2, q2, -, -⟩ := DataW.trod_int Tryz.underlying3 a2
    obtain ⟨x3, q3, -, -⟩ := DataW.trod_int Tryz.underlying3 a3
    obtain ⟨x4, q4, q5, q6⟩ := DataW.trod_int Tryz.underlying44 a4
    simp at q0 q1 q2 q3 q4
    subst q0 q1 q2 q3 q4
    exact ⟨⟨x0, x1, x2, x3, x4⟩, rfl, by first | exact q5 | exact q6⟩) hval hlt h
  exact ⟨A, n, c, l, h1, h2, h3, h4, h5⟩
end Go.Proofs.YtfikonmhbhcejaaGreatDoor

namespace Go.Proofs.YtfikonmhbhcejaaGreatDoor
end Go.Proofs.YtfikonmhbhcejaaGreatDoor
