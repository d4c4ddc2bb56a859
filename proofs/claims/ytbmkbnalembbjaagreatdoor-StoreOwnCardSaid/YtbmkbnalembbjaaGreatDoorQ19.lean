/-
  Texts joined: QFreshLaw SlicesInt EqualOb EqualObs Alike StLaw2 QFreshLaw2 QHoldFn QHoldRoom QSureLaw QStFresh QStLaw5 QPlayDefs QPlayLaw.
-/
import Derived.Test.YtbmkbnalembbjaaGreatDoorRows
import Derived.Test.YtbmkbnalembbjaaGreatDoorQ0
import Derived.Test.YtbmkbnalembbjaaGreatDoorQ5
import Derived.Test.YtbmkbnalembbjaaGreatDoorQ9
import Derived.Test.YtbmkbnalembbjaaGreatDoorQ14
import Derived.Test.YtbmkbnalembbjaaGreatDoorQ15
import Derived.Test.YtbmkbnalembbjaaGreatDoorQ16
import Derived.Test.YtbmkbnalembbjaaGreatDoorQ18
namespace Go.Proofs.YtbmkbnalembbjaaGreatDoor
open Go.RowKit
theorem spotAt_mem {a : List Int} (h : spotsE a = 0) {s : Spot} (hs : s ∈ spotsL a) (hf : s.f = false) : spotAt (spotsL a) s.loc = some s := by
  obtain ⟨cs, hok, rfl, hS, -⟩ := arena_chunks h
  obtain ⟨j, hj⟩ := List.mem_iff_getElem?.1 hs
  rw [hS] at hj ⊢
  obtain ⟨P, c, Q, rfl, rfl, -⟩ := spots_split cs 0 j s hj
  rw [Nat.zero_add]
  exact split_at P Q c hf
theorem Iso.keeps {a b c L : List Int} {φ : Int → Int} (h : Iso a b L φ) (hk : KeepsLive b c) (hc : spotsE c = 0) : Iso a c L φ := by
  refine ⟨h.nn, h.inj, fun x hx s hs => ?_⟩
  obtain ⟨s', hs', e1, e2, e3, e4, e5⟩ := h.at_ x hx s hs
  obtain ⟨m1, m2, m3⟩ := spotAt_some hs'
  obtain ⟨k1, k2, k3⟩ := hk s' m1 m2
  have := spotAt_mem hc k1 m2
  rw [m3] at this
  exact ⟨s', this, e1, e2, e3, k3.trans e4, k2.trans e5⟩
structure Made (T T' : St) (k : Nat) (g : Rn) (r b t : Int) : Prop where
  ok : StOk T'
  keeps : KeepsLive T.a T'.a
  root : T'.r[k]? = some g.loc
  loc : 0 ≤ g.loc
  spot : (⟨g.loc, r, b, t, false⟩ : Spot) ∈ spotsL T'.a
  zero : ∀ v ∈ bodyOf T'.a ⟨g.loc, r, b, t, false⟩, v = 0
  refs : ∀ v ∈ refsOf T'.a ⟨g.loc, r, b, t, false⟩, v = 0
  fresh : g.loc ∉ begsL (spotsL T.a)
  len : T'.a.length = T.a.length
theorem made_of {T : St} (hT : StOk T) {k j : Nat} {g : Rn} {r b t : Int} (hE : headE r b t false = 0) (hG : FirstGap T.a (1 + r + b) j g) (hk : k < T.r.length) :
    Made T ⟨takenA T.a g r b t, T.r.set k g.loc, T.p, T.l⟩ k g r b t := by
  have hC := hT.arena
  have hgm := List.mem_of_getElem? hG.at_
  obtain ⟨i, m, rfl, hm1, hm2⟩ := gap_facts hC hgm
  have hgm2 : (⟨i, m⟩ : Rn) ∈ gapsL (spotsL T.a) := by unfold ggL at hgm; rwa [if_pos hC] at hgm
  obtain ⟨s, hs, e1, e2, e3⟩ := join_spot hC hgm2
  have hJ := join_ok hC
  obtain ⟨js, hjs⟩ := List.mem_iff_getElem?.1 hs
  have hlong : 1 + r + b ≤ s.long := by rw [e3]; exact hG.long
  have hTk := take_ok hJ.check hjs e2 hE hlong
  have hKp := (join_keeps hC).trans (take_keeps hJ.check hjs e2 hE hlong)
  have hTA : takeL (joinL T.a (gapsL (spotsL T.a))) s.loc.toNat s.long.toNat (1 + r + b).toNat (wordOf r b t false) = takenA T.a ⟨i, m⟩ r b t := by
    unfold takenA joined
    rw [e1, e3]
  rw [hTA] at hTk hKp
  have hlen : (takenA T.a ⟨i, m⟩ r b t).length = T.a.length := by rw [hTk.blen, hJ.len]
  have hi : s.loc.toNat = i := by rw [e1]; rfl
  rw [hi] at hTk
  obtain ⟨j2, hj2⟩ := hTk.spot
  have hsp := List.mem_of_getElem? hj2
  have hbeg : (i : Int) ∈ begsL (spotsL (takenA T.a ⟨i, m⟩ r b t)) := List.mem_map.2 ⟨_, List.mem_filter.2 ⟨hsp, rfl⟩, rfl⟩
  have hlive : ∀ x ∈ begsL (spotsL T.a), x ∈ begsL (spotsL (takenA T.a ⟨i, m⟩ r b t)) := fun x hx => by
    obtain ⟨u, hu, rfl⟩ := List.mem_map.1 hx
    obtain ⟨h1, h2⟩ := List.mem_filter.1 hu
    exact List.mem_map.2 ⟨u, List.mem_filter.2 ⟨(hKp u h1 (by simpa using h2)).1, h2⟩, rfl⟩
  have hfr : (i : Int) ∉ begsL (spotsL T.a) := by
    intro hx
    obtain ⟨u, hu, hul⟩ := List.mem_map.1 hx
    obtain ⟨h1, h2⟩ := List.mem_filter.1 hu
    have h3 := ((join_keeps hC) u h1 (by simpa using h2)).1
    obtain ⟨q, hq⟩ := List.mem_iff_getElem?.1 h3
    have hr := spots_rise (checkE_ok.1 hJ.check).1
    obtain ⟨a1, a2⟩ := List.getElem?_eq_some_iff.1 hq
    obtain ⟨b1, b2⟩ := List.getElem?_eq_some_iff.1 hjs
    have he : q = js := by
      rcases Nat.lt_trichotomy q js with h | h | h
      · have := List.pairwise_iff_getElem.1 hr q js a1 b1 h
        rw [a2, b2, hul, e1] at this
        simp only at this
        omega
      · exact h
      · have := List.pairwise_iff_getElem.1 hr js q b1 a1 h
        rw [a2, b2, hul, e1] at this
        simp only at this
        omega
    subst he
    rw [hjs] at hq
    obtain rfl := Option.some.inj hq
    rw [e2] at h2
    simp at h2
  refine ⟨⟨hTk.bcheck, ?_, hT.pins, hT.hands, fun x hx => ?_⟩, hKp, List.getElem?_set_self hk, by simp, hsp, (hTk.refs _ rfl).2, (hTk.refs _ rfl).1, hfr, hlen⟩
  · obtain ⟨q1, q2, q3, q4⟩ := rootE_ok hT.roots
    show rootE (T.r.set k (i : Int)) ((takenA T.a ⟨i, m⟩ r b t).length : Int) = 0
    rw [hlen]
    refine rootE_of q1 q2 (by rw [List.length_set]; exact q3) (fun v hv => ?_)
    rcases List.mem_or_eq_of_mem_set hv with hv | rfl
    · exact q4 v hv
    · omega
  · rcases fromL_mem.1 hx with ⟨q1, q2⟩ | ⟨u, q1, q2, rfl⟩ | ⟨z, q1, rfl⟩
    · rcases List.mem_or_eq_of_mem_set q1 with q1 | rfl
      · exact hlive _ (hT.live _ (root_at q1 q2))
      · exact hbeg
    · exact hlive _ (hT.live _ (open_at q1 q2))
    · exact hlive _ (hT.live _ (pin_at q1))
end Go.Proofs.YtbmkbnalembbjaaGreatDoor

namespace Go.Proofs.YtbmkbnalembbjaaGreatDoor
open Go.RowKit
set_option maxHeartbeats 400000 in
theorem equal_int (A A2 : Option Addr) (n c m c2 B B2 : Nat) (xs ys : List Int) (w : World) (hr : Reads w B 1 A n (xs.map (.int .i64))) (hr2 : Reads w B2 1 A2 m (ys.map (.int .i64))) (hn : n ≤ 1000000000000000000) (hm : m ≤ 1000000000000000000) :
    Calls Tryz.prog 30 #[.slice A n c, .slice A2 m c2] w fun e w' => e = .returned (.bool (decide (xs = ys))) ∧ ∃ q, w' = w.drewN q := by
  have hxl : xs.length = n := by have := hr.1; simpa using this
  have hyl : ys.length = m := by have := hr2.1; simpa using this
  have HX := Lib.hid hxl
  have HY := Lib.hid hyl
  clear hxl hyl
  by_cases hnm : n = m
  · subst hnm
    go_enter Tryz.func30, Tryz.ntmps30
    go_wp2
    go_loopw [13] (fun i wr => ∃ j : Nat, j ≤ n ∧ i = .int .i64 j ∧ xs.take j = ys.take j ∧ ∃ q, wr = w.drewN q) (fun i _ => n - (intOf i).toNat)
    case atStart => exact ⟨0, Nat.zero_le _, rfl, by simp, 0, rfl⟩
    case round =>
      obtain ⟨j, hj, rfl, ht, q, rfl⟩ := hrel
      have HT := Lib.hid ht
      clear ht
      by_cases hlt : j < n
      · obtain ⟨ad, u, rfl, _, hx, hc⟩ := hr.at_ hlt
        obtain ⟨ad2, u2, rfl, _, hx2, hc2⟩ := hr2.at_ hlt
        have hl : j < xs.length := by rw [HX.out]; exact hlt
        have hl2 : j < ys.length := by rw [HY.out]; exact hlt
        rw [List.getElem?_map, List.getElem?_eq_getElem hl] at hx
        rw [List.getElem?_map, List.getElem?_eq_getElem hl2] at hx2
        obtain rfl : u = .int .i64 xs[j] := by simpa using hx.symm
        obtain rfl : u2 = .int .i64 ys[j] := by simpa using hx2.symm
        clear hx hx2
        have T : Hid (xs.take (j + 1) = ys.take (j + 1) ↔ xs[j] = ys[j]) := by
          show _ ↔ _
          rw [List.take_succ_eq_append_getElem hl, List.take_succ_eq_append_getElem hl2, HT.out]
          constructor
          · intro h
            have := List.append_cancel_left h
            simpa using this
          · intro h; rw [h]
        have hlt' : (j : Int) < n := by omega
        generalize hgx : xs[j] = x at *
        generalize hgy : ys[j] = y at *
        have HGX := Lib.hid hgx
        have HGY := Lib.hid hgy
        clear hgx hgy
        by_cases he : x = y
        · subst he
          go_wp2
          go_quiet (fail)
          go_wp2
          go_roundw
          case rel => exact ⟨j + 1, by omega, by go_num, T.out.2 (by simp), _, rfl⟩
          case measure => simp [intOf]; omega
        · have he2 : (x == y) = false := by simpa using he
          have he3 : (x != y) = true := by simpa using he
          go_wp2
          go_quiet (fail)
          go_wp2
          go_ret
          refine ⟨?_, _, drewN_add _ _ _⟩
          have : ¬ xs = ys := by
            intro h
            apply he
            rw [← HGX.out, ← HGY.out]
            subst h
            rfl
          rw [decide_eq_false this]
          rfl
      · go_wp2
        go_ret
        have hjn : j = n := by omega
        subst hjn
        exact ⟨by rw [decide_eq_true (eq_of_takes _ _ _ HX.out HY.out HT.out)]; rfl, _, rfl⟩
  · have hne : ¬ xs = ys := by
      intro h
      subst h
      exact hnm (HX.out.symm.trans HY.out)
    have e1 : ((n : Int) == (m : Int)) = false := by simp; omega
    have e2 : ((n : Int) != (m : Int)) = true := by simp; omega
    have e3 : (n == m) = false := by simpa using hnm
    have e4 : (n != m) = true := by simpa using hnm
    go_enter Tryz.func30, Tryz.ntmps30
    go_wp2
    go_ret
    exact ⟨by rw [decide_eq_false hne]; rfl, 0, rfl⟩
end Go.Proofs.YtbmkbnalembbjaaGreatDoor

namespace Go.Proofs.YtbmkbnalembbjaaGreatDoor
open Go.RowKit
end Go.Proofs.YtbmkbnalembbjaaGreatDoor

namespace Go.Proofs.YtbmkbnalembbjaaGreatDoor
open Go.RowKit
end Go.Proofs.YtbmkbnalembbjaaGreatDoor

namespace Go.Proofs.YtbmkbnalembbjaaGreatDoor
open Go.RowKit
def AliveF (a f : List Int) : Prop := checkE a = 0 ∧ ∀ x ∈ f, x ∈ begsL (spotsL a)
def FormPost (a f : List Int) (n2 : Nat) (w : World) (e : Ending) (w' : World) : Prop := Below w.heap.size w w' ∧
  ((AliveF a f ∧ ∃ (os : List Ob) (fr : List Int) (vs : List ObV) (Ao : Option Addr) (co : Nat) (Af : Option Addr) (cf : Nat), FormIs a f os fr ∧ os.length ≤ 256 ∧ fr.length = n2 ∧ e = .returned (.tuple #[.agg #[.slice Ao os.length co, .slice Af n2 cf], .int .i64 0]) ∧
      w'.ownsRow w.heap.size 113 4 (.slice Ao os.length co) os.length (vs.flatMap obvC) ∧ ObsO w' w.heap.size os vs ∧ w'.ownsRow w.heap.size 3 1 (.slice Af n2 cf) n2 (fr.map (.int .i64))) ∨
   (¬ AliveF a f ∧ ∃ er : Int, (er != 0) = true ∧ e = .returned (.tuple #[.agg #[.slice none 0 0, .slice none 0 0], .int .i64 er])))
end Go.Proofs.YtbmkbnalembbjaaGreatDoor

namespace Go.Proofs.YtbmkbnalembbjaaGreatDoor
open Go.RowKit
theorem Reached.roots_same {a f g L : List Int} {S : List Spot} (h : Reached a S f L) (hs : ∀ x, x ∈ f ↔ x ∈ g) : Reached a S g L :=
  ⟨h.begs, fun x hx => h.roots x ((hs x).2 hx), h.closed, fun X h1 h2 => h.least X (fun x hx => h1 x ((hs x).1 hx)) h2, h.sorted, h.once⟩
theorem longsL_phi {S T : List Spot} {φ : Int → Int} : ∀ {L : List Int}, (∀ x ∈ L, longW T (φ x) = longW S x) → longsL T (L.map φ) = longsL S L
  | [], _ => rfl
  | x :: L, h => by
    simp only [List.map_cons, longsL]
    rw [h x List.mem_cons_self, longsL_phi (fun y hy => h y (List.mem_cons_of_mem _ hy))]
section
variable {S S' : St} {fr : Int} {L Y now : List Int}
theorem Coll.strict (h : Coll S S' fr L Y now) : Y.Pairwise (· < ·) := by
  obtain ⟨hK, -⟩ := kept_of h.is.longs
  rw [h.is.y]
  exact slid_pairwise _ L _ 0 hK (fun x hx => (cleaned_of h.is).plan.nn2 x (List.mem_of_getElem? hx))
theorem Coll.reached (h : Coll S S' fr L Y now) (hS : StOk S) : Reached S'.a (spotsL S'.a) (rootedL S') Y := by
  have hC := cleaned_of h.is
  have hmap : L.map (posL L Y) = Y := posL_map hC.plan.nodup hC.plan.len
  have hR := reached_iso hC.laid.iso hC.plan.nn2 h.is.reached (by rw [hmap]; exact h.strict.imp (fun h => by omega))
  rw [hmap] at hR
  refine hR.roots_same (fun x => ?_)
  rw [h.rooted hS, List.mem_map, List.mem_map]
  constructor
  · rintro ⟨y, hy, rfl⟩
    refine ⟨y, rooted_begs.1 ?_, rfl⟩
    rcases List.mem_append.1 hy with hy | hy
    · exact hy
    · obtain ⟨z, hz, rfl⟩ := List.mem_map.1 hy
      exact pin_at hz
  · rintro ⟨y, hy, rfl⟩
    exact ⟨y, List.mem_append_left _ (rooted_begs.2 hy), rfl⟩
theorem Coll.longs (h : Coll S S' fr L Y now) : longsL (spotsL S'.a) Y = longsL (spotsL S.a) L := by
  have hC := cleaned_of h.is
  have hmap : L.map (posL L Y) = Y := posL_map hC.plan.nodup hC.plan.len
  conv => lhs; rw [← hmap]
  refine longsL_phi (fun x hx => ?_)
  obtain ⟨s, hs⟩ := begsL_iff.1 (hC.closed.begs x hx)
  obtain ⟨s', hs', e1, e2, -⟩ := hC.laid.iso.at_ x hx s hs
  unfold longW
  rw [hs, hs']
  simp only [Spot.long, e1, e2]
end
theorem StOk.lens {S : St} (h : StOk S) : S.a.length ≤ 256 ∧ S.r.length ≤ 32 ∧ S.p.length ≤ 16 ∧ S.l.length ≤ 16 ∧ (rootedL S).length ≤ 64 := by
  have h1 := (parse_ok (checkE_ok.1 h.arena).1).1
  have h2 := (rootE_ok h.roots).2.2.1
  have h3 := h.pins.len
  have h4 := (handE_ok.1 h.hands).1
  refine ⟨h1, h2, h3, h4, ?_⟩
  unfold rootedL openL pinsL
  have h5 := List.length_filter_le (fun v : Int => decide (0 ≤ v)) S.r
  have h6 := List.length_filter_le (fun s : Slot => s.opn) S.l
  rw [List.length_append, List.length_append, List.length_map, List.length_map]
  omega
theorem StOk.alive {S : St} (h : StOk S) : AliveF S.a (rootedL S) := ⟨h.arena, fun x hx => h.live x (rooted_begs.2 hx)⟩
end Go.Proofs.YtbmkbnalembbjaaGreatDoor

namespace Go.Proofs.YtbmkbnalembbjaaGreatDoor
open Go.RowKit
theorem place_inv {S : List Spot} {v : Int} (h : (placeF S v).isSome = true) (h0 : v ≠ 0) : v - 1 ∈ begsL S := by
  rcases placeC_some.1 h with h | ⟨s, hs, hp⟩
  · exact absurd h h0
  · unfold isPlace at hp
    simp only [Bool.and_eq_true, Bool.not_eq_true', beq_iff_eq] at hp
    exact List.mem_map.2 ⟨s, List.mem_filter.2 ⟨hs, by simp [hp.1]⟩, by omega⟩
end Go.Proofs.YtbmkbnalembbjaaGreatDoor

namespace Go.Proofs.YtbmkbnalembbjaaGreatDoor
open Go.RowKit
theorem longW_nn {a : List Int} (h : checkE a = 0) {x : Int} (hx : x ∈ begsL (spotsL a)) : 0 ≤ longW (spotsL a) x := by
  obtain ⟨s, hs⟩ := begsL_iff.1 hx
  have h1 := ((parse_mem (parse_ok (checkE_ok.1 h).1).2) s (spotAt_some hs).1).1
  unfold longW
  rw [hs]
  have := h1.r0
  have := h1.b0
  simp only [Spot.long]
  omega
theorem longs_nn {S : List Spot} {l : List Int} (h : ∀ x ∈ l, 0 ≤ longW S x) : 0 ≤ longsL S l := by
  induction l with
  | nil => simp [longsL]
  | cons x l ih =>
    have h1 := h x List.mem_cons_self
    have h2 := ih (fun y hy => h y (List.mem_cons_of_mem _ hy))
    simp only [longsL]
    omega
theorem Coll.free {S S' : St} {fr : Int} {L Y now : List Int} (h : Coll S S' fr L Y now) : 0 ≤ fr ∧ fr ≤ S.a.length ∧ S.a.length ≤ 256 ∧ fr + longsL (spotsL S.a) L = S.a.length ∧ fr = rsum (ggL S'.a) ∧ (∀ r ∈ ggL S'.a, 0 ≤ r.len ∧ r.len ≤ 256) ∧ (ggL S'.a).length ≤ S.p.length + 1 ∧ (ggL S'.a).length ≤ 257 := by
  obtain ⟨g1, g2, g3, g4, g5⟩ := (cleaned_of h.is).gaps h.is
  have h1 := longs_nn (S := spotsL S.a) (l := L) (fun x hx => longW_nn h.is.check (h.is.reached.begs x hx))
  have h2 := rsum_takeG g3 (ggL S'.a).length (Nat.le_refl _)
  rw [List.take_length] at h2
  have h3 := h.fr
  unfold freeL at h3
  unfold pinsL at g4
  rw [List.length_map] at g4
  exact ⟨by omega, by omega, (cleaned_of h.is).len256, by omega, h3, g3, g4, g5⟩
def argE (N : Int) : Int := if N < 1 ∨ 256 < N then 1 else 0
def NeverRet (S : St) (N : Int) (e : Ending) : Prop := ∃ (S' : St) (fr : Int) (L Y now : List Int), Coll S S' fr L Y now ∧ e = .returned (.tuple #[.bool (decide (argE N = 0) && decide (fr < N)), .int .i64 (argE N)])
def SureRet (S : St) (pn : Nat) (N : Int) (e : Ending) : Prop := ∃ (S' : St) (fr : Int) (L Y now : List Int), Coll S S' fr L Y now ∧ e = .returned (.tuple #[.bool (decide (argE N = 0) && decide ((pn + 1) * N ≤ fr)), .int .i64 (argE N)])
def mostL : Int → List Rn → Int
  | m, [] => m
  | m, r :: l => mostL (max m r.len) l
end Go.Proofs.YtbmkbnalembbjaaGreatDoor

namespace Go.Proofs.YtbmkbnalembbjaaGreatDoor
open Go.RowKit
open Classical in
noncomputable def roomOf (S : St) : Int := if h : ∃ fr, ∃ (S' : St) (L Y now : List Int), Coll S S' fr L Y now then h.choose else 0
theorem Coll.room {S S' : St} {fr : Int} {L Y now : List Int} (h : Coll S S' fr L Y now) : roomOf S = fr := by
  have hx : ∃ fr, ∃ (S' : St) (L Y now : List Int), Coll S S' fr L Y now := ⟨_, _, _, _, _, h⟩
  unfold roomOf
  rw [dif_pos hx]
  obtain ⟨S2, L2, Y2, now2, h2⟩ := hx.choose_spec
  exact (h.unique h2).2
def holdE (S : St) (N : Int) : Int := if stE S ≠ 0 then stE S else argE N
noncomputable def neverB (S : St) (N : Int) : Bool := decide (holdE S N = 0) && decide (roomOf S < N)
noncomputable def sureB (S : St) (pn : Nat) (N : Int) : Bool := decide (holdE S N = 0) && decide (((pn : Int) + 1) * N ≤ roomOf S)
end Go.Proofs.YtbmkbnalembbjaaGreatDoor

namespace Go.Proofs.YtbmkbnalembbjaaGreatDoor
open Go.RowKit
def nfW : List Chk → Int
  | [] => 0
  | c :: cs => (if c.f then 0 else (c.len : Int)) + nfW cs
end Go.Proofs.YtbmkbnalembbjaaGreatDoor

namespace Go.Proofs.YtbmkbnalembbjaaGreatDoor
open Go.RowKit
theorem makeE_zero {S : St} {slot r b t : Int} {f : Bool} (h : makeE S slot r b t f = 0) : StOk S ∧ f = false ∧ headE r b t false = 0 ∧ ∃ k : Nat, slot = k ∧ k < S.r.length := by
  unfold makeE at h
  split at h
  · rename_i h0; exact absurd h h0
  · rename_i h0
    split at h
    · cases h
    · rename_i h1
      split at h
      · rename_i h2; exact absurd h h2
      · rename_i h2
        split at h
        · cases h
        · rename_i h3
          have hf : f = false := by simpa using h3
          subst hf
          exact ⟨stE_ok.1 (by simpa using h0), rfl, by simpa using h2, slot.toNat, by omega, by omega⟩
theorem taken_wf {a : List Int} (hc : checkE a = 0) (ha : W64 a) {j : Nat} {g : Rn} {r b t : Int} (hG : FirstGap a (1 + r + b) j g) (hE : headE r b t false = 0) : W64 (takenA a g r b t) := by
  obtain ⟨i, m, rfl, h1, h2⟩ := gap_facts hc (List.mem_of_getElem? hG.at_)
  have h256 := (parse_ok (checkE_ok.1 hc).1).1
  have hJ := join_ok hc
  have hwj : W64 (joined a) := by
    refine joinL_w64 _ _ ha (fun q hq => ?_)
    obtain ⟨i, k, rfl, h1, h2⟩ := hJ.runs q hq
    simp only [Int.toNat_natCast]
    omega
  unfold takenA takeL
  refine layL_w64 (set_w64 (fillL_w64 hwj) (word_wf hE)) ?_
  simp only [Int.toNat_natCast]
  omega
structure FreshIs (S T : St) (k : Nat) (r b t : Int) (x : Int) : Prop where
  ok : StOk T
  root : T.r[k]? = some x
  loc : 0 ≤ x
  spot : (⟨x, r, b, t, false⟩ : Spot) ∈ spotsL T.a
  zero : ∀ v ∈ bodyOf T.a ⟨x, r, b, t, false⟩, v = 0
  alike : ∀ (os os' : List Ob) (fo fo' : List Int), FormIs S.a (rootedL ⟨S.a, S.r.set k (-1), S.p, S.l⟩) os fo → FormIs T.a (rootedL ⟨T.a, T.r.set k (-1), T.p, T.l⟩) os' fo' → os = os' ∧ fo = fo'
theorem FreshIs.at_ {S T : St} {k : Nat} {r b t x : Int} (h : FreshIs S T k r b t x) : ∃ i, ObjAt T x ⟨x, r, b, t, false⟩ i := by
  obtain ⟨s, i, hO⟩ := obj_at h.ok (root_at (List.mem_of_getElem? h.root) h.loc)
  have h1 := spotAt_mem (checkE_ok.1 h.ok.arena).1 h.spot rfl
  obtain rfl := Option.some.inj (h1.symm.trans hO.spot)
  exact ⟨i, hO⟩
def FullIs (S : St) (r b : Int) : Prop := ∃ (S' : St) (fr : Int) (L Y now : List Int), Coll S S' fr L Y now ∧ mostL 0 (ggL S'.a) < 1 + r + b
end Go.Proofs.YtbmkbnalembbjaaGreatDoor

namespace Go.Proofs.YtbmkbnalembbjaaGreatDoor
open Go.RowKit
theorem there_of {S : St} (hS : StOk S) {X : Int} (hX : X ∈ S.begs) : thereB X = true := by
  have h1 := begs_lt hS.arena (hS.live X hX)
  have h2 := (parse_ok (checkE_ok.1 hS.arena).1).1
  simp [thereB]
  omega
theorem countP_nn {l : List Rn} (h : PinsOk l) (x : Int) : 0 ≤ countP l x := by
  by_cases hx : ∃ y ∈ l, y.loc = x
  · obtain ⟨y, hy, rfl⟩ := hx
    rw [countP_some h hy]
    have := bad_no.1 (h.ok y hy)
    omega
  · rw [countP_none (fun y hy e => hx ⟨y, hy, e⟩)]
    omega
theorem pin_law {S : St} (hS : StOk S) {X : Int} (hX : X ∈ S.begs) {j : Nat} (h : PinOk S X j) : StOk ⟨S.a, S.r, moreP S.p X j (countP S.p X + 1), S.l⟩ := by
  obtain ⟨h1, h2, h3⟩ := h
  have h0 := countP_nn hS.pins X
  have hp := hS.pins.more h1 (there_of hS hX) (v := countP S.p X + 1) (by omega) (by omega) h3
  refine hS.pinsSet hp (fun y hy => ?_)
  rcases (moreP_mem h1 hS.pins.rise y).1 hy with rfl | ⟨hy, -⟩
  · exact hX
  · exact pin_at hy
theorem body_ix {a : List Int} {s : Spot} {K : Nat} (hK : (K : Int) < s.b) : (bodyOf a s)[K]? = a[s.loc.toNat + 1 + s.r.toNat + K]? := by
  unfold bodyOf
  rw [List.getElem?_take, if_pos (by omega), List.getElem?_drop]
end Go.Proofs.YtbmkbnalembbjaaGreatDoor

namespace Go.Proofs.YtbmkbnalembbjaaGreatDoor
open Go.RowKit
def formsT : List Bool := [
  false, false, false, false,
  true, true, true, true,
  false, false, false, false,
  true, true, true, false,
  true, true, true, false,
  true, true, false, false,
  true, true, false, true,
  true, false, false, false,
  true, false, false, false,
  true, true, false, false,
  true, false, false, false,
  true, false, false, true,
  false, false, false, true,
  true, false, false, false]
def formB (k i : Nat) : Bool := formsT.getD (k * 4 + i) false
def rightB (o : OpV) : Bool := decide (1 ≤ o.kind) && decide (o.kind ≤ 13) && ((formB o.kind.toNat 0 || o.a == 0) && (formB o.kind.toNat 1 || o.b == 0) && (formB o.kind.toNat 2 || o.c == 0) && (formB o.kind.toNat 3 || o.v == 0))
noncomputable def sweep (S : St) : St × Int := open Classical in if h : ∃ p : St × Int, ∃ L Y now : List Int, Coll S p.1 p.2 L Y now then h.choose else (S, 0)
theorem Coll.sweep {S S' : St} {fr : Int} {L Y now : List Int} (h : Coll S S' fr L Y now) : sweep S = (S', fr) := by
  have hx : ∃ p : St × Int, ∃ L Y now : List Int, Coll S p.1 p.2 L Y now := ⟨(S', fr), L, Y, now, h⟩
  unfold Proofs.YtbmkbnalembbjaaGreatDoor.sweep
  rw [dif_pos hx]
  obtain ⟨L2, Y2, now2, h2⟩ := hx.choose_spec
  obtain ⟨e1, e2⟩ := h.unique h2
  exact Prod.ext e1 e2
def firstG (a : List Int) (N : Int) : Rn := ((ggL a)[(firstV (ggL a) N).toNat]?).getD ⟨0, 0⟩
theorem FirstGap.is {a : List Int} {N : Int} {j : Nat} {g : Rn} (h : FirstGap a N j g) : firstG a N = g := by
  unfold firstG
  rw [h.ix, Int.toNat_natCast, h.at_]
  rfl
def putIn (S : St) (k : Nat) (r b t : Int) : St := ⟨takenA S.a (firstG S.a (1 + r + b)) r b t, S.r.set k (firstG S.a (1 + r + b)).loc, S.p, S.l⟩
noncomputable def placeX (l : List Rn) (x : Int) : Nat := open Classical in if h : ∃ j, PlaceOf l x j then h.choose else 0
theorem PlaceOf.is {l : List Rn} {x : Int} {j : Nat} (h : PlaceOf l x j) : placeX l x = j := by
  have hx : ∃ j, PlaceOf l x j := ⟨j, h⟩
  unfold placeX
  rw [dif_pos hx]
  exact hx.choose_spec.unique h
def atX (S : St) (slot : Int) : Int := S.r.getD slot.toNat 0
structure Out where
  st : St
  told : Int
  er : Int
noncomputable def makeO (S : St) (slot r b t : Int) : Out :=
  if makeE S slot r b t false ≠ 0 then ⟨S, 0, makeE S slot r b t false⟩
  else if fitsE (ggL S.a) (1 + r + b) = 0 then ⟨putIn S slot.toNat r b t, 0, 0⟩
  else if fitsE (ggL (sweep S).1.a) (1 + r + b) = 0 then ⟨putIn (sweep S).1 slot.toNat r b t, 1, 0⟩
  else ⟨S, 0, 7⟩
noncomputable def collO (S : St) : Out := if stE S ≠ 0 then ⟨S, 0, stE S⟩ else ⟨(sweep S).1, (sweep S).2, 0⟩
def refO (S : St) (x y z : Int) : Out := if refE S x y z ≠ 0 then ⟨S, 0, refE S x y z⟩ else ⟨⟨S.a, S.r.set z.toNat (S.a.getD (atX S x + 1 + y).toNat 0 - 1), S.p, S.l⟩, 0, 0⟩
def setO (S : St) (x y z : Int) : Out := if refE S x y z ≠ 0 then ⟨S, 0, refE S x y z⟩ else ⟨⟨S.a.set (atX S x + 1 + y).toNat (atX S z + 1), S.r, S.p, S.l⟩, 0, 0⟩
def getO (S : St) (x y : Int) : Out := if bodyE S x y ≠ 0 then ⟨S, 0, bodyE S x y⟩ else ⟨S, S.a.getD (atX S x + 1 + (spS S x).r + y).toNat 0, 0⟩
def putO (S : St) (x y v : Int) : Out := if bodyE S x y ≠ 0 then ⟨S, 0, bodyE S x y⟩ else ⟨⟨S.a.set (atX S x + 1 + (spS S x).r + y).toNat v, S.r, S.p, S.l⟩, 0, 0⟩
noncomputable instance pinOk_dec (S : St) (X : Int) (j : Nat) : Decidable (PinOk S X j) := Classical.propDecidable _
noncomputable instance unpinOk_dec (S : St) (x : Int) (j : Nat) : Decidable (UnpinOk S x j) := Classical.propDecidable _
noncomputable def pinO (S : St) (x : Int) : Out :=
  if objE S x ≠ 0 then ⟨S, 0, objE S x⟩
  else if PinOk S (atX S x) (placeX S.p (atX S x)) then ⟨⟨S.a, S.r, moreP S.p (atX S x) (placeX S.p (atX S x)) (countP S.p (atX S x) + 1), S.l⟩, atX S x, 0⟩
  else ⟨S, 0, addE S.p (atX S x)⟩
noncomputable def unpinO (S : St) (x : Int) : Out :=
  if stE S ≠ 0 then ⟨S, 0, stE S⟩
  else if UnpinOk S x (placeX S.p x) then ⟨⟨S.a, S.r, lessP S.p (placeX S.p x) x (countP S.p x - 1), S.l⟩, 0, 0⟩
  else ⟨S, 0, dropE S.p x⟩
def peekO (S : St) (x k : Int) : Out :=
  if stE S ≠ 0 then ⟨S, 0, stE S⟩
  else if x ∉ pinsL S.p then ⟨S, 0, 8⟩
  else if k < 0 ∨ ((spotAt (spotsL S.a) x).getD ⟨0, 0, 0, 0, false⟩).b ≤ k then ⟨S, 0, 4⟩
  else ⟨S, (bodyOf S.a ((spotAt (spotsL S.a) x).getD ⟨0, 0, 0, 0, false⟩)).getD k.toNat 0, 0⟩
def openO (S : St) (x : Int) : Out :=
  if objE S x ≠ 0 then ⟨S, 0, objE S x⟩
  else if openE S.l (atX S x) ≠ 0 then ⟨S, 0, openE S.l (atX S x)⟩
  else ⟨⟨S.a, S.r, S.p, S.l.set (freeIx S.l).toNat ⟨(S.l.getD (freeIx S.l).toNat ⟨0, false, 0⟩).gen + 1, true, atX S x⟩⟩, freeIx S.l + ((S.l.getD (freeIx S.l).toNat ⟨0, false, 0⟩).gen + 1) * 65536, 0⟩
def useO (S : St) (v slot : Int) : Out :=
  if slotTE S slot ≠ 0 then ⟨S, 0, slotTE S slot⟩
  else match findS S.l v with
    | some sl => ⟨⟨S.a, S.r.set slot.toNat sl.loc, S.p, S.l⟩, 0, 0⟩
    | none => ⟨S, 0, 9⟩
def shutO (S : St) (v : Int) : Out :=
  if stE S ≠ 0 then ⟨S, 0, stE S⟩
  else match findS S.l v with
    | some sl => ⟨⟨S.a, S.r, S.p, S.l.set (v % 65536).toNat ⟨sl.gen, false, 0⟩⟩, 0, 0⟩
    | none => ⟨S, 0, 9⟩
def dropO (S : St) (slot : Int) : Out := if slotTE S slot ≠ 0 then ⟨S, 0, slotTE S slot⟩ else ⟨⟨S.a, S.r.set slot.toNat (-1), S.p, S.l⟩, 0, 0⟩
noncomputable def doO (S : St) (o : OpV) : Out :=
  if rightB o = false then ⟨S, 0, 1⟩
  else if o.kind = 1 then makeO S o.a o.b o.c (o.v % 65536)
  else if o.kind = 2 then collO S
  else if o.kind = 3 then refO S o.a o.b o.c
  else if o.kind = 4 then setO S o.a o.b o.c
  else if o.kind = 5 then getO S o.a o.b
  else if o.kind = 6 then putO S o.a o.b o.v
  else if o.kind = 7 then pinO S o.a
  else if o.kind = 8 then unpinO S o.a
  else if o.kind = 9 then peekO S o.a o.b
  else if o.kind = 10 then openO S o.a
  else if o.kind = 11 then useO S o.v o.a
  else if o.kind = 12 then shutO S o.v
  else dropO S o.a
structure ToldV where
  e : Int
  v : Int
deriving DecidableEq
noncomputable def nextS (S : St) (o : OpV) : St := if (doO S o).er = 0 then (doO S o).st else S
noncomputable def toldS (S : St) (o : OpV) : ToldV := ⟨(doO S o).er, (doO S o).told⟩
noncomputable def playS : St → List OpV → St
  | S, [] => S
  | S, o :: l => playS (nextS S o) l
noncomputable def playT : St → List OpV → List ToldV
  | _, [] => []
  | S, o :: l => toldS S o :: playT (nextS S o) l
theorem playS_app : ∀ (l m : List OpV) (S : St), playS S (l ++ m) = playS (playS S l) m
  | [], _, _ => rfl
  | o :: l, m, S => playS_app l m (nextS S o)
theorem playT_app : ∀ (l m : List OpV) (S : St), playT S (l ++ m) = playT S l ++ playT (playS S l) m
  | [], _, _ => rfl
  | o :: l, m, S => by
    show _ :: playT _ (l ++ m) = _
    rw [playT_app l m]
    rfl
theorem told_zero {p : Prop} [Decidable p] {a b : Out} (ha : a.er ≠ 0 → a.told = 0) (hb : b.er ≠ 0 → b.told = 0) : (if p then a else b).er ≠ 0 → (if p then a else b).told = 0 := by
  by_cases hp : p
  · rw [if_pos hp]; exact ha
  · rw [if_neg hp]; exact hb
theorem doO_told (S : St) (o : OpV) : (doO S o).er ≠ 0 → (doO S o).told = 0 := by
  unfold doO
  refine told_zero (fun _ => rfl) (told_zero ?_ (told_zero ?_ (told_zero ?_ (told_zero ?_ (told_zero ?_ (told_zero ?_ (told_zero ?_ (told_zero ?_ (told_zero ?_ (told_zero ?_ (told_zero ?_ (told_zero ?_ ?_))))))))))))
  · unfold makeO
    exact told_zero (fun _ => rfl) (told_zero (fun _ => rfl) (told_zero (fun h => absurd rfl h) (fun _ => rfl)))
  · unfold collO
    exact told_zero (fun _ => rfl) (fun h => absurd rfl h)
  · unfold refO
    exact told_zero (fun _ => rfl) (fun _ => rfl)
  · unfold setO
    exact told_zero (fun _ => rfl) (fun _ => rfl)
  · unfold getO
    exact told_zero (fun _ => rfl) (fun h => absurd rfl h)
  · unfold putO
    exact told_zero (fun _ => rfl) (fun _ => rfl)
  · unfold pinO
    exact told_zero (fun _ => rfl) (told_zero (fun h => absurd rfl h) (fun _ => rfl))
  · unfold unpinO
    exact told_zero (fun _ => rfl) (told_zero (fun _ => rfl) (fun _ => rfl))
  · unfold peekO
    exact told_zero (fun _ => rfl) (told_zero (fun _ => rfl) (told_zero (fun _ => rfl) (fun h => absurd rfl h)))
  · unfold openO
    exact told_zero (fun _ => rfl) (told_zero (fun _ => rfl) (fun h => absurd rfl h))
  · unfold useO
    refine told_zero (fun _ => rfl) ?_
    split <;> exact fun _ => rfl
  · unfold shutO
    refine told_zero (fun _ => rfl) ?_
    split <;> exact fun _ => rfl
  · unfold dropO
    exact told_zero (fun _ => rfl) (fun _ => rfl)
end Go.Proofs.YtbmkbnalembbjaaGreatDoor

namespace Go.Proofs.YtbmkbnalembbjaaGreatDoor
open Go.RowKit
theorem atX_is {S : St} {k : Nat} {x : Int} (hx : S.r[k]? = some x) : atX S k = x := by
  unfold atX
  rw [List.getD_eq_getElem?_getD, Int.toNat_natCast, hx]
  rfl
theorem wf_small {v : Int} (h0 : 0 ≤ v) (h1 : v ≤ 1000) : (Lit.int .u64 v).wf = true := by
  simp [Lit.wf, IntKind.min, IntKind.max, IntKind.signed, IntKind.bits]
  omega
theorem StOk.rootsLive {S : St} (h : StOk S) {k : Nat} {y : Int} (hy : y = -1 ∨ y ∈ begsL (spotsL S.a)) : StOk ⟨S.a, S.r.set k y, S.p, S.l⟩ := by
  obtain ⟨h1, h2, h3, h4⟩ := rootE_ok h.roots
  have hyr : -1 ≤ y ∧ y < S.a.length := by
    rcases hy with rfl | hy
    · omega
    · have := begs_lt h.arena hy
      omega
  refine ⟨h.arena, rootE_of h1 h2 (by rw [List.length_set]; exact h3) (fun v hv => ?_), h.pins, h.hands, fun x hx => ?_⟩
  · rcases List.mem_or_eq_of_mem_set hv with hv | rfl
    · exact h4 v hv
    · exact hyr
  · rcases fromL_mem.1 hx with ⟨h5, h6⟩ | ⟨s, h5, h6, rfl⟩ | ⟨z, h5, rfl⟩
    · rcases List.mem_or_eq_of_mem_set h5 with h5 | rfl
      · exact h.live x (root_at h5 h6)
      · rcases hy with rfl | hy
        · omega
        · exact hy
    · exact h.live _ (open_at h5 h6)
    · exact h.live _ (pin_at h5)
theorem ref_ix {a : List Int} {s : Spot} {K : Nat} (hK : (K : Int) < s.r) : (refsOf a s)[K]? = a[s.loc.toNat + 1 + K]? := by
  unfold refsOf
  rw [List.getElem?_take, if_pos (by omega), List.getElem?_drop]
theorem ref_word {S : St} (hS : StOk S) {X K : Nat} {s : Spot} {i : Nat} (hO : ObjAt S X s i) (hk : (K : Int) < s.r) : ∃ v : Nat, S.a[X + 1 + K]? = some (v : Int) ∧ v ≤ 256 ∧ ((v : Int) - 1 = -1 ∨ (v : Int) - 1 ∈ begsL (spotsL S.a)) := by
  have hfit := hO.ok.fits
  have hb := hO.ok.b0
  have hm := List.mem_of_getElem? hO.at_
  have hloc := hO.loc
  have hlen : X + 1 + K < S.a.length := by simp only [Spot.long] at hfit; omega
  have hr := (checkE_ok.1 hS.arena).2
  unfold refsOk at hr
  have h1 := List.all_eq_true.1 hr s hm
  have hv : (refsOf S.a s)[K]? = some S.a[X + 1 + K] := by
    rw [ref_ix hk, show s.loc.toNat + 1 + K = X + 1 + K by omega, List.getElem?_eq_getElem hlen]
  have h2 := List.all_eq_true.1 h1 _ (List.mem_of_getElem? hv)
  by_cases h0 : S.a[X + 1 + K] = 0
  · exact ⟨0, by rw [List.getElem?_eq_getElem hlen, h0]; rfl, by omega, .inl (by omega)⟩
  · have h3 := place_inv h2 h0
    have h4 := begs_lt hS.arena h3
    have h5 := (parse_ok (checkE_ok.1 hS.arena).1).1
    obtain ⟨v, hv'⟩ := Int.eq_ofNat_of_zero_le (show 0 ≤ S.a[X + 1 + K] by omega)
    refine ⟨v, by rw [List.getElem?_eq_getElem hlen, hv'], by omega, .inr ?_⟩
    rw [← hv']
    exact h3
theorem refO_is {S : St} {k X K O v : Nat} (hE : refE S k K O = 0) (hx : S.r[k]? = some (X : Int)) (hv : S.a[X + 1 + K]? = some (v : Int)) : refO S k K O = ⟨⟨S.a, S.r.set O ((v : Int) - 1), S.p, S.l⟩, 0, 0⟩ := by
  unfold refO
  rw [if_neg (by rw [hE]; decide), atX_is hx, show ((X : Int) + 1 + K).toNat = X + 1 + K by omega, List.getD_eq_getElem?_getD, hv, Int.toNat_natCast]
  rfl
theorem setO_is {S : St} {k X K O : Nat} {y : Int} (hE : refE S k K O = 0) (hx : S.r[k]? = some (X : Int)) (hy : S.r[O]? = some y) : setO S k K O = ⟨⟨S.a.set (X + 1 + K) (y + 1), S.r, S.p, S.l⟩, 0, 0⟩ := by
  unfold setO
  rw [if_neg (by rw [hE]; decide), atX_is hx, atX_is hy, show ((X : Int) + 1 + K).toNat = X + 1 + K by omega]
theorem getO_is {S : St} {k X K v : Nat} {s : Spot} {i : Nat} (hE : bodyE S k K = 0) (hx : S.r[k]? = some (X : Int)) (hO : ObjAt S X s i) (hv : S.a[X + 1 + s.r.toNat + K]? = some (v : Int)) : getO S k K = ⟨S, v, 0⟩ := by
  have hr := hO.ok.r0
  unfold getO
  rw [if_neg (by rw [hE]; decide), atX_is hx, spS_at hx hO, show ((X : Int) + 1 + s.r + K).toNat = X + 1 + s.r.toNat + K by omega, List.getD_eq_getElem?_getD, hv]
  rfl
theorem putO_is {S : St} {k X K : Nat} {v : Int} {s : Spot} {i : Nat} (hE : bodyE S k K = 0) (hx : S.r[k]? = some (X : Int)) (hO : ObjAt S X s i) : putO S k K v = ⟨⟨S.a.set (X + 1 + s.r.toNat + K) v, S.r, S.p, S.l⟩, 0, 0⟩ := by
  have hr := hO.ok.r0
  unfold putO
  rw [if_neg (by rw [hE]; decide), atX_is hx, spS_at hx hO, show ((X : Int) + 1 + s.r + K).toNat = X + 1 + s.r.toNat + K by omega]
theorem pinO_ok {S : St} {k X j : Nat} (hE : objE S k = 0) (hx : S.r[k]? = some (X : Int)) (hP : PinOk S X j) : pinO S k = ⟨⟨S.a, S.r, moreP S.p X j (countP S.p X + 1), S.l⟩, X, 0⟩ := by
  unfold pinO
  rw [if_neg (by rw [hE]; decide), atX_is hx, hP.1.is, if_pos hP]
theorem pinO_no {S : St} {k X : Nat} (hE : objE S k = 0) (hx : S.r[k]? = some (X : Int)) (hP : ∀ j, ¬ PinOk S X j) : pinO S k = ⟨S, 0, addE S.p X⟩ := by
  unfold pinO
  rw [if_neg (by rw [hE]; decide), atX_is hx, if_neg (hP _)]
theorem unpinO_ok {S : St} {x : Int} {j : Nat} (hS : StOk S) (hP : UnpinOk S x j) : unpinO S x = ⟨⟨S.a, S.r, lessP S.p j x (countP S.p x - 1), S.l⟩, 0, 0⟩ := by
  unfold unpinO
  rw [if_neg (by rw [stE_ok.2 hS]; decide), hP.2.1.is, if_pos hP]
theorem unpinO_no {S : St} {x : Int} (hS : StOk S) (hP : ∀ j, ¬ UnpinOk S x j) : unpinO S x = ⟨S, 0, dropE S.p x⟩ := by
  unfold unpinO
  rw [if_neg (by rw [stE_ok.2 hS]; decide), if_neg (hP _)]
theorem openO_is {S : St} {k X j : Nat} {sl : Slot} (hE : objE S k = 0) (hx : S.r[k]? = some (X : Int)) (hE2 : openE S.l X = 0) (hj : freeIx S.l = j) (hs : S.l[j]? = some sl) : openO S k = ⟨⟨S.a, S.r, S.p, S.l.set j ⟨sl.gen + 1, true, (X : Int)⟩⟩, (j : Int) + (sl.gen + 1) * 65536, 0⟩ := by
  unfold openO
  rw [if_neg (by rw [hE]; decide), atX_is hx, if_neg (by rw [hE2]; decide), hj, Int.toNat_natCast, List.getD_eq_getElem?_getD, hs]
  rfl
theorem openO_no {S : St} {k X : Nat} (hE : objE S k = 0) (hx : S.r[k]? = some (X : Int)) (hE2 : openE S.l X ≠ 0) : openO S k = ⟨S, 0, openE S.l X⟩ := by
  unfold openO
  rw [if_neg (by rw [hE]; decide), atX_is hx, if_pos hE2]
structure StGood (S : St) : Prop where
  ok : StOk S
  wf : W64 S.a
theorem Out.good_if {p : Prop} [Decidable p] {a b : Out} (ha : p → a.er ≠ 0) (hb : ¬ p → b.er = 0 → StGood b.st) : (if p then a else b).er = 0 → StGood (if p then a else b).st := by
  intro h
  by_cases hp : p
  · rw [if_pos hp] at h
    exact absurd h (ha hp)
  · rw [if_neg hp] at h ⊢
    exact hb hp h
theorem Out.good_or {p : Prop} [Decidable p] {a b : Out} (ha : a.er = 0 → StGood a.st) (hb : b.er = 0 → StGood b.st) : (if p then a else b).er = 0 → StGood (if p then a else b).st := by
  split
  · exact ha
  · exact hb
theorem lessP_mem {l : List Rn} {j : Nat} {x v : Int} {z : Rn} (hz : z ∈ lessP l j x v) : z ∈ l ∨ z = ⟨x, v⟩ ∧ v ≠ 0 := by
  unfold lessP at hz
  by_cases h : v = 0
  · rw [if_pos h] at hz
    rcases List.mem_append.1 hz with hz | hz
    · exact .inl (List.mem_of_mem_take hz)
    · exact .inl (List.mem_of_mem_drop hz)
  · rw [if_neg h] at hz
    rcases List.mem_or_eq_of_mem_set hz with hz | rfl
    · exact .inl hz
    · exact .inr ⟨rfl, h⟩
section
variable {S : St} (hS : StGood S)
include hS
theorem makeO_good (slot r b t : Int) : (makeO S slot r b t).er = 0 → StGood (makeO S slot r b t).st := by
  unfold makeO
  refine Out.good_if (fun h => h) (fun h0 => ?_)
  obtain ⟨hOK, -, hE, k, rfl, hk⟩ := makeE_zero (by simpa using h0)
  rw [Int.toNat_natCast]
  by_cases h1 : fitsE (ggL S.a) (1 + r + b) = 0
  · rw [if_pos h1]
    intro _
    obtain ⟨j, g, hG⟩ := first_gap h1
    unfold putIn
    rw [hG.is]
    exact ⟨(made_of hOK hE hG hk).ok, taken_wf hOK.arena hS.wf hG hE⟩
  · rw [if_neg h1]
    by_cases h2 : fitsE (ggL (sweep S).1.a) (1 + r + b) = 0
    · rw [if_pos h2]
      intro _
      obtain ⟨j, g, hG⟩ := first_gap h2
      by_cases hx : ∃ p : St × Int, ∃ L Y now : List Int, Coll S p.1 p.2 L Y now
      · obtain ⟨⟨S', fr⟩, L, Y, now, hC⟩ := hx
        rw [hC.sweep] at hG ⊢
        simp only at hC hG
        unfold putIn
        simp only
        rw [hG.is]
        exact ⟨(made_of (hC.ok hOK) hE hG (by rw [hC.r, List.length_map]; exact hk)).ok, taken_wf (hC.ok hOK).arena (hC.wf hS.wf) hG hE⟩
      · have e : sweep S = (S, 0) := dif_neg hx
        rw [e] at hG ⊢
        unfold putIn
        simp only at hG ⊢
        rw [hG.is]
        exact ⟨(made_of hOK hE hG hk).ok, taken_wf hOK.arena hS.wf hG hE⟩
    · rw [if_neg h2]
      intro h
      exact absurd h (show ¬ (7 : Int) = 0 by decide)
theorem sweep_good : StGood (sweep S).1 := by
  by_cases hx : ∃ p : St × Int, ∃ L Y now : List Int, Coll S p.1 p.2 L Y now
  · obtain ⟨⟨S', fr⟩, L, Y, now, hC⟩ := hx
    rw [hC.sweep]
    exact ⟨hC.ok hS.ok, hC.wf hS.wf⟩
  · have e : sweep S = (S, 0) := dif_neg hx
    rw [e]
    exact hS
theorem collO_good : (collO S).er = 0 → StGood (collO S).st := by
  unfold collO
  exact Out.good_if (fun h => h) (fun _ _ => sweep_good hS)
theorem refO_good (x y z : Int) : (refO S x y z).er = 0 → StGood (refO S x y z).st := by
  intro h
  have hE : refE S x y z = 0 := by
    refine Classical.byContradiction fun h0 => ?_
    unfold refO at h
    rw [if_pos h0] at h
    exact h0 h
  obtain ⟨hOK, k, X, K, O, s, i, rfl, rfl, rfl, hx, hO, hK, hz⟩ := refE_zero hE
  obtain ⟨v, hv, h1, h2⟩ := ref_word hOK hO hK
  rw [refO_is hE hx hv]
  exact ⟨hOK.rootsLive h2, hS.wf⟩
theorem setO_good (x y z : Int) : (setO S x y z).er = 0 → StGood (setO S x y z).st := by
  intro h
  have hE : refE S x y z = 0 := by
    refine Classical.byContradiction fun h0 => ?_
    unfold setO at h
    rw [if_pos h0] at h
    exact h0 h
  obtain ⟨hOK, k, X, K, O, s, i, rfl, rfl, rfl, hx, hO, hK, hz⟩ := refE_zero hE
  have hy : S.r[O]? = some S.r[O] := List.getElem?_eq_getElem hz
  obtain ⟨q1, q2, q3⟩ := root_val hOK (List.mem_of_getElem? hy)
  rw [setO_is hE hx hy]
  exact ⟨(set_law hOK hO hK q1).1, wf_set hS.wf (wf_small (by omega) (by omega))⟩
theorem getO_good (x y : Int) : (getO S x y).er = 0 → StGood (getO S x y).st := by
  unfold getO
  exact Out.good_if (fun h => h) (fun _ _ => hS)
theorem putO_good (x y v : Int) (hv : (Lit.int .u64 v).wf = true) : (putO S x y v).er = 0 → StGood (putO S x y v).st := by
  intro h
  have hE : bodyE S x y = 0 := by
    refine Classical.byContradiction fun h0 => ?_
    unfold putO at h
    rw [if_pos h0] at h
    exact h0 h
  obtain ⟨hOK, k, X, K, s, i, rfl, rfl, hx, hO, hK⟩ := bodyE_zero hE
  rw [putO_is hE hx hO]
  exact ⟨(put_law hOK hO hK v).1, wf_set hS.wf hv⟩
theorem pinO_good (x : Int) : (pinO S x).er = 0 → StGood (pinO S x).st := by
  intro h
  have hE : objE S x = 0 := by
    refine Classical.byContradiction fun h0 => ?_
    unfold pinO at h
    rw [if_pos h0] at h
    exact h0 h
  obtain ⟨hOK, k, X, s, i, rfl, hx, hO, -⟩ := root_obj hE
  by_cases hP : ∃ j, PinOk S X j
  · obtain ⟨j, hP⟩ := hP
    rw [pinO_ok hE hx hP]
    exact ⟨pin_law hOK (root_at (List.mem_of_getElem? hx) (by omega)) hP, hS.wf⟩
  · rw [pinO_no hE hx (fun j hj => hP ⟨j, hj⟩)] at h ⊢
    exact ⟨hOK, hS.wf⟩
theorem less_ok {x : Int} {j : Nat} (h : UnpinOk S x j) : PinsOk (lessP S.p j x (countP S.p x - 1)) ∧ x ∈ S.begs := by
  obtain ⟨h1, h2, h3⟩ := h
  have hp := hS.ok.pins
  obtain ⟨y, hy, rfl⟩ := hasAt_some h3
  have hym := List.mem_of_getElem? hy
  have hc := countP_some hp hym
  have hb := bad_no.1 (show pinBad ⟨y.loc, y.len⟩ = false from hp.ok y hym)
  rw [hc]
  refine ⟨⟨?_, fun z hz => ?_, ?_⟩, pin_at hym⟩
  · have := hp.len
    unfold lessP
    split
    · rw [List.length_append, List.length_take, List.length_drop]; omega
    · rw [List.length_set]; omega
  · rcases lessP_mem hz with hz | ⟨rfl, h0⟩
    · exact hp.ok z hz
    · exact bad_no.2 ⟨hb.1, by omega, by omega⟩
  · unfold lessP
    split
    · refine hp.rise.sublist ?_
      conv => rhs; rw [← List.take_append_drop j S.p]
      refine List.Sublist.append (List.Sublist.refl _) ?_
      rw [← List.drop_drop]
      exact List.drop_sublist _ _
    · exact set_rise hp.rise hy
theorem unpinO_good (x : Int) : (unpinO S x).er = 0 → StGood (unpinO S x).st := by
  intro h
  by_cases hP : ∃ j, UnpinOk S x j
  · obtain ⟨j, hP⟩ := hP
    rw [unpinO_ok hS.ok hP]
    obtain ⟨h1, h2⟩ := less_ok hS hP
    refine ⟨hS.ok.pinsSet h1 (fun y hy => ?_), hS.wf⟩
    rcases lessP_mem hy with hy | ⟨rfl, -⟩
    · exact pin_at hy
    · exact h2
  · rw [unpinO_no hS.ok (fun j hj => hP ⟨j, hj⟩)]
    exact hS
theorem peekO_good (x k : Int) : (peekO S x k).er = 0 → StGood (peekO S x k).st := by
  unfold peekO
  exact Out.good_if (fun h => h) (fun _ => Out.good_if (fun _ => (show ¬ (8 : Int) = 0 by decide)) (fun _ => Out.good_if (fun _ => (show ¬ (4 : Int) = 0 by decide)) (fun _ _ => hS)))
theorem openO_good (x : Int) : (openO S x).er = 0 → StGood (openO S x).st := by
  intro h
  have hE : objE S x = 0 := by
    refine Classical.byContradiction fun h0 => ?_
    unfold openO at h
    rw [if_pos h0] at h
    exact h0 h
  obtain ⟨hOK, k, X, s, i, rfl, hx, hO, -⟩ := root_obj hE
  have hX : (X : Int) ∈ S.begs := root_at (List.mem_of_getElem? hx) (by omega)
  rcases open_cases hOK hX with ⟨h1, j, sl, hop, g0, g1, g2, g3⟩ | h1
  · rw [openO_is hE hx h1 hop.ix hop.at_]
    have h2 := begs_lt hOK.arena (hOK.live X hX)
    have h3 := (parse_ok (checkE_ok.1 hOK.arena).1).1
    exact ⟨hOK.slots (slot_open g0 g1 (by omega)) (fun _ => hX), hS.wf⟩
  · rw [openO_no hE hx (by rw [h1]; decide)] at h
    rw [h1] at h
    exact absurd h (show ¬ (7 : Int) = 0 by decide)
theorem useO_good (v slot : Int) : (useO S v slot).er = 0 → StGood (useO S v slot).st := by
  unfold useO
  refine Out.good_if (fun h => h) (fun _ => ?_)
  split
  · rename_i sl hsl
    intro _
    obtain ⟨-, h2, h3, -⟩ := findS_some.1 hsl
    exact ⟨hS.ok.rootsSet (.inr (open_at (List.mem_of_getElem? h2) h3)), hS.wf⟩
  · intro h
    exact absurd h (show ¬ (9 : Int) = 0 by decide)
theorem shutO_good (v : Int) : (shutO S v).er = 0 → StGood (shutO S v).st := by
  unfold shutO
  refine Out.good_if (fun h => h) (fun _ => ?_)
  split
  · rename_i sl hsl
    intro _
    obtain ⟨-, h2, h3, -⟩ := findS_some.1 hsl
    have h4 := slotE_gen (slotE_of hS.ok.hands h2)
    exact ⟨hS.ok.slots (slot_shut h4.1 h4.2) (fun h => by cases h), hS.wf⟩
  · intro h
    exact absurd h (show ¬ (9 : Int) = 0 by decide)
theorem dropO_good (slot : Int) : (dropO S slot).er = 0 → StGood (dropO S slot).st := by
  unfold dropO
  exact Out.good_if (fun h => h) (fun _ _ => ⟨hS.ok.rootsSet (.inl rfl), hS.wf⟩)
theorem doO_good (o : OpV) (hv : (Lit.int .u64 o.v).wf = true) : (doO S o).er = 0 → StGood (doO S o).st := by
  unfold doO
  refine Out.good_if (fun _ => (show ¬ (1 : Int) = 0 by decide)) (fun _ => ?_)
  refine Out.good_or (makeO_good hS _ _ _ _) (Out.good_or (collO_good hS) (Out.good_or (refO_good hS _ _ _) (Out.good_or (setO_good hS _ _ _) (Out.good_or (getO_good hS _ _) (Out.good_or (putO_good hS _ _ _ hv) (Out.good_or (pinO_good hS _) (Out.good_or (unpinO_good hS _) (Out.good_or (peekO_good hS _ _) (Out.good_or (openO_good hS _) (Out.good_or (useO_good hS _ _) (Out.good_or (shutO_good hS _) (dropO_good hS _))))))))))))
theorem nextS_good (o : OpV) (hv : (Lit.int .u64 o.v).wf = true) : StGood (nextS S o) := by
  unfold nextS
  split
  · rename_i h; exact doO_good hS o hv h
  · exact hS
end
end Go.Proofs.YtbmkbnalembbjaaGreatDoor
