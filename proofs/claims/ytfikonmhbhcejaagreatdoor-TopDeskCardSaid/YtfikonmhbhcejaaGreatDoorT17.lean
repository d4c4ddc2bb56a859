/-
  Texts joined: FreshLaw SlicesInt EqualOb EqualObs Alike StLaw2 FreshLaw2 HoldFn HoldRoom SureLaw StFresh StLaw5.
-/
import Derived.Test.YtfikonmhbhcejaaGreatDoorRows
import Derived.Test.YtfikonmhbhcejaaGreatDoorT0
import Derived.Test.YtfikonmhbhcejaaGreatDoorT6
import Derived.Test.YtfikonmhbhcejaaGreatDoorT11
import Derived.Test.YtfikonmhbhcejaaGreatDoorT12
import Derived.Test.YtfikonmhbhcejaaGreatDoorT13
import Derived.Test.YtfikonmhbhcejaaGreatDoorT16
namespace Go.Proofs.YtfikonmhbhcejaaGreatDoor
open Go.RowKit
theorem spotAt_mem {a : List Int} (h : spotsE a = 0) {s : Spot} (hs : s ∈ spotsL a) (hf : s.f = false) : spotAt (spotsL a) s.loc = some s := by
  obtain ⟨cs, hok, rfl, hS, -⟩ := arena_chunks h
  obtain ⟨j, hj⟩ := List.mem_iff_getElem?.1 hs
  rw [hS] at hj ⊢
  obtain ⟨P, c, Q, rfl, rfl, -⟩ := spots_split cs 0 j s hj
  rw [Nat.zero_add]
  exact split_at P Q c hf
theorem Iso.keeps {a b c L : List Int} {φ : Int → Int} (h : Iso a b L φ) (hk : KeepsLive b c) (hc : spotsE c = 0) : Iso a c L φ := by
  refine ⟨h.nn, h.inj, fun x hx s hs => ?_⟩
  obtain ⟨s', hs', e1, e2, e3, e4, e5⟩ := h.at_ x hx s hs
  obtain ⟨m1, m2, m3⟩ := spotAt_some hs'
  obtain ⟨k1, k2, k3⟩ := hk s' m1 m2
  have := spotAt_mem hc k1 m2
  rw [m3] at this
  exact ⟨s', this, e1, e2, e3, k3.trans e4, k2.trans e5⟩
structure Made (T T' : St) (k : Nat) (g : Rn) (r b t : Int) : Prop where
  ok : StOk T'
  keeps : KeepsLive T.a T'.a
  root : T'.r[k]? = some g.loc
  loc : 0 ≤ g.loc
  spot : (⟨g.loc, r, b, t, false⟩ : Spot) ∈ spotsL T'.a
  zero : ∀ v ∈ bodyOf T'.a ⟨g.loc, r, b, t, false⟩, v = 0
  refs : ∀ v ∈ refsOf T'.a ⟨g.loc, r, b, t, false⟩, v = 0
  fresh : g.loc ∉ begsL (spotsL T.a)
  len : T'.a.length = T.a.length
theorem made_of {T : St} (hT : StOk T) {k j : Nat} {g : Rn} {r b t : Int} (hE : headE r b t false = 0) (hG : FirstGap T.a (1 + r + b) j g) (hk : k < T.r.length) :
    Made T ⟨takenA T.a g r b t, T.r.set k g.loc, T.p, T.l⟩ k g r b t := by
  have hC := hT.arena
  have hgm := List.mem_of_getElem? hG.at_
  obtain ⟨i, m, rfl, hm1, hm2⟩ := gap_facts hC hgm
  have hgm2 : (⟨i, m⟩ : Rn) ∈ gapsL (spotsL T.a) := by unfold ggL at hgm; rwa [if_pos hC] at hgm
  obtain ⟨s, hs, e1, e2, e3⟩ := join_spot hC hgm2
  have hJ := join_ok hC
  obtain ⟨js, hjs⟩ := List.mem_iff_getElem?.1 hs
  have hlong : 1 + r + b ≤ s.long := by rw [e3]; exact hG.long
  have hTk := take_ok hJ.check hjs e2 hE hlong
  have hKp := (join_keeps hC).trans (take_keeps hJ.check hjs e2 hE hlong)
  have hTA : takeL (joinL T.a (gapsL (spotsL T.a))) s.loc.toNat s.long.toNat (1 + r + b).toNat (wordOf r b t false) = takenA T.a ⟨i, m⟩ r b t := by
    unfold takenA joined
    rw [e1, e3]
  rw [hTA] at hTk hKp
  have hlen : (takenA T.a ⟨i, m⟩ r b t).length = T.a.length := by rw [hTk.blen, hJ.len]
  have hi : s.loc.toNat = i := by rw [e1]; rfl
  rw [hi] at hTk
  obtain ⟨j2, hj2⟩ := hTk.spot
  have hsp := List.mem_of_getElem? hj2
  have hbeg : (i : Int) ∈ begsL (spotsL (takenA T.a ⟨i, m⟩ r b t)) := List.mem_map.2 ⟨_, List.mem_filter.2 ⟨hsp, rfl⟩, rfl⟩
  have hlive : ∀ x ∈ begsL (spotsL T.a), x ∈ begsL (spotsL (takenA T.a ⟨i, m⟩ r b t)) := fun x hx => by
    obtain ⟨u, hu, rfl⟩ := List.mem_map.1 hx
    obtain ⟨h1, h2⟩ := List.mem_filter.1 hu
    exact List.mem_map.2 ⟨u, List.mem_filter.2 ⟨(hKp u h1 (by simpa using h2)).1, h2⟩, rfl⟩
  have hfr : (i : Int) ∉ begsL (spotsL T.a) := by
    intro hx
    obtain ⟨u, hu, hul⟩ := List.mem_map.1 hx
    obtain ⟨h1, h2⟩ := List.mem_filter.1 hu
    have h3 := ((join_keeps hC) u h1 (by simpa using h2)).1
    obtain ⟨q, hq⟩ := List.mem_iff_getElem?.1 h3
    have hr := spots_rise (checkE_ok.1 hJ.check).1
    obtain ⟨a1, a2⟩ := List.getElem?_eq_some_iff.1 hq
    obtain ⟨b1, b2⟩ := List.getElem?_eq_some_iff.1 hjs
    have he : q = js := by
      rcases Nat.lt_trichotomy q js with h | h | h
      · have := List.pairwise_iff_getElem.1 hr q js a1 b1 h
        rw [a2, b2, hul, e1] at this
        simp only at this
        omega
      · exact h
      · have := List.pairwise_iff_getElem.1 hr js q b1 a1 h
        rw [a2, b2, hul, e1] at this
        simp only at this
        omega
    subst he
    rw [hjs] at hq
    obtain rfl := Option.some.inj hq
    rw [e2] at h2
    simp at h2
  refine ⟨⟨hTk.bcheck, ?_, hT.pins, hT.hands, fun x hx => ?_⟩, hKp, List.getElem?_set_self hk, by simp, hsp, (hTk.refs _ rfl).2, (hTk.refs _ rfl).1, hfr, hlen⟩
  · obtain ⟨q1, q2, q3, q4⟩ := rootE_ok hT.roots
    show rootE (T.r.set k (i : Int)) ((takenA T.a ⟨i, m⟩ r b t).length : Int) = 0
    rw [hlen]
    refine rootE_of q1 q2 (by rw [List.length_set]; exact q3) (fun v hv => ?_)
    rcases List.mem_or_eq_of_mem_set hv with hv | rfl
    · exact q4 v hv
    · omega
  · rcases fromL_mem.1 hx with ⟨q1, q2⟩ | ⟨u, q1, q2, rfl⟩ | ⟨z, q1, rfl⟩
    · rcases List.mem_or_eq_of_mem_set q1 with q1 | rfl
      · exact hlive _ (hT.live _ (root_at q1 q2))
      · exact hbeg
    · exact hlive _ (hT.live _ (open_at q1 q2))
    · exact hlive _ (hT.live _ (pin_at q1))
end Go.Proofs.YtfikonmhbhcejaaGreatDoor

namespace Go.Proofs.YtfikonmhbhcejaaGreatDoor
open Go.RowKit
end Go.Proofs.YtfikonmhbhcejaaGreatDoor

namespace Go.Proofs.YtfikonmhbhcejaaGreatDoor
open Go.RowKit
end Go.Proofs.YtfikonmhbhcejaaGreatDoor

namespace Go.Proofs.YtfikonmhbhcejaaGreatDoor
open Go.RowKit
end Go.Proofs.YtfikonmhbhcejaaGreatDoor

namespace Go.Proofs.YtfikonmhbhcejaaGreatDoor
open Go.RowKit
def AliveF (a f : List Int) : Prop := checkE a = 0 ∧ ∀ x ∈ f, x ∈ begsL (spotsL a)
def FormPost (a f : List Int) (n2 : Nat) (w : World) (e : Ending) (w' : World) : Prop := Below w.heap.size w w' ∧
  ((AliveF a f ∧ ∃ (os : List Ob) (fr : List Int) (vs : List ObV) (Ao : Option Addr) (co : Nat) (Af : Option Addr) (cf : Nat), FormIs a f os fr ∧ os.length ≤ 256 ∧ fr.length = n2 ∧ e = .returned (.tuple #[.agg #[.slice Ao os.length co, .slice Af n2 cf], .int .i64 0]) ∧
      w'.ownsRow w.heap.size 52 4 (.slice Ao os.length co) os.length (vs.flatMap obvC) ∧ ObsO w' w.heap.size os vs ∧ w'.ownsRow w.heap.size 3 1 (.slice Af n2 cf) n2 (fr.map (.int .i64))) ∨
   (¬ AliveF a f ∧ ∃ er : Int, (er != 0) = true ∧ e = .returned (.tuple #[.agg #[.slice none 0 0, .slice none 0 0], .int .i64 er])))
end Go.Proofs.YtfikonmhbhcejaaGreatDoor

namespace Go.Proofs.YtfikonmhbhcejaaGreatDoor
open Go.RowKit
theorem Reached.roots_same {a f g L : List Int} {S : List Spot} (h : Reached a S f L) (hs : ∀ x, x ∈ f ↔ x ∈ g) : Reached a S g L :=
  ⟨h.begs, fun x hx => h.roots x ((hs x).2 hx), h.closed, fun X h1 h2 => h.least X (fun x hx => h1 x ((hs x).1 hx)) h2, h.sorted, h.once⟩
theorem longsL_phi {S T : List Spot} {φ : Int → Int} : ∀ {L : List Int}, (∀ x ∈ L, longW T (φ x) = longW S x) → longsL T (L.map φ) = longsL S L
  | [], _ => rfl
  | x :: L, h => by
    simp only [List.map_cons, longsL]
    rw [h x List.mem_cons_self, longsL_phi (fun y hy => h y (List.mem_cons_of_mem _ hy))]
section
variable {S S' : St} {fr : Int} {L Y now : List Int}
theorem Coll.strict (h : Coll S S' fr L Y now) : Y.Pairwise (· < ·) := by
  obtain ⟨hK, -⟩ := kept_of h.is.longs
  rw [h.is.y]
  exact slid_pairwise _ L _ 0 hK (fun x hx => (cleaned_of h.is).plan.nn2 x (List.mem_of_getElem? hx))
theorem Coll.reached (h : Coll S S' fr L Y now) (hS : StOk S) : Reached S'.a (spotsL S'.a) (rootedL S') Y := by
  have hC := cleaned_of h.is
  have hmap : L.map (posL L Y) = Y := posL_map hC.plan.nodup hC.plan.len
  have hR := reached_iso hC.laid.iso hC.plan.nn2 h.is.reached (by rw [hmap]; exact h.strict.imp (fun h => by omega))
  rw [hmap] at hR
  refine hR.roots_same (fun x => ?_)
  rw [h.rooted hS, List.mem_map, List.mem_map]
  constructor
  · rintro ⟨y, hy, rfl⟩
    refine ⟨y, rooted_begs.1 ?_, rfl⟩
    rcases List.mem_append.1 hy with hy | hy
    · exact hy
    · obtain ⟨z, hz, rfl⟩ := List.mem_map.1 hy
      exact pin_at hz
  · rintro ⟨y, hy, rfl⟩
    exact ⟨y, List.mem_append_left _ (rooted_begs.2 hy), rfl⟩
theorem Coll.longs (h : Coll S S' fr L Y now) : longsL (spotsL S'.a) Y = longsL (spotsL S.a) L := by
  have hC := cleaned_of h.is
  have hmap : L.map (posL L Y) = Y := posL_map hC.plan.nodup hC.plan.len
  conv => lhs; rw [← hmap]
  refine longsL_phi (fun x hx => ?_)
  obtain ⟨s, hs⟩ := begsL_iff.1 (hC.closed.begs x hx)
  obtain ⟨s', hs', e1, e2, -⟩ := hC.laid.iso.at_ x hx s hs
  unfold longW
  rw [hs, hs']
  simp only [Spot.long, e1, e2]
end
theorem StOk.lens {S : St} (h : StOk S) : S.a.length ≤ 256 ∧ S.r.length ≤ 32 ∧ S.p.length ≤ 16 ∧ S.l.length ≤ 16 ∧ (rootedL S).length ≤ 64 := by
  have h1 := (parse_ok (checkE_ok.1 h.arena).1).1
  have h2 := (rootE_ok h.roots).2.2.1
  have h3 := h.pins.len
  have h4 := (handE_ok.1 h.hands).1
  refine ⟨h1, h2, h3, h4, ?_⟩
  unfold rootedL openL pinsL
  have h5 := List.length_filter_le (fun v : Int => decide (0 ≤ v)) S.r
  have h6 := List.length_filter_le (fun s : Slot => s.opn) S.l
  rw [List.length_append, List.length_append, List.length_map, List.length_map]
  omega
theorem StOk.alive {S : St} (h : StOk S) : AliveF S.a (rootedL S) := ⟨h.arena, fun x hx => h.live x (rooted_begs.2 hx)⟩
end Go.Proofs.YtfikonmhbhcejaaGreatDoor

namespace Go.Proofs.YtfikonmhbhcejaaGreatDoor
open Go.RowKit
theorem place_inv {S : List Spot} {v : Int} (h : (placeF S v).isSome = true) (h0 : v ≠ 0) : v - 1 ∈ begsL S := by
  rcases placeC_some.1 h with h | ⟨s, hs, hp⟩
  · exact absurd h h0
  · unfold isPlace at hp
    simp only [Bool.and_eq_true, Bool.not_eq_true', beq_iff_eq] at hp
    exact List.mem_map.2 ⟨s, List.mem_filter.2 ⟨hs, by simp [hp.1]⟩, by omega⟩
end Go.Proofs.YtfikonmhbhcejaaGreatDoor

namespace Go.Proofs.YtfikonmhbhcejaaGreatDoor
open Go.RowKit
theorem longW_nn {a : List Int} (h : checkE a = 0) {x : Int} (hx : x ∈ begsL (spotsL a)) : 0 ≤ longW (spotsL a) x := by
  obtain ⟨s, hs⟩ := begsL_iff.1 hx
  have h1 := ((parse_mem (parse_ok (checkE_ok.1 h).1).2) s (spotAt_some hs).1).1
  unfold longW
  rw [hs]
  have := h1.r0
  have := h1.b0
  simp only [Spot.long]
  omega
theorem longs_nn {S : List Spot} {l : List Int} (h : ∀ x ∈ l, 0 ≤ longW S x) : 0 ≤ longsL S l := by
  induction l with
  | nil => simp [longsL]
  | cons x l ih =>
    have h1 := h x List.mem_cons_self
    have h2 := ih (fun y hy => h y (List.mem_cons_of_mem _ hy))
    simp only [longsL]
    omega
theorem Coll.free {S S' : St} {fr : Int} {L Y now : List Int} (h : Coll S S' fr L Y now) : 0 ≤ fr ∧ fr ≤ S.a.length ∧ S.a.length ≤ 256 ∧ fr + longsL (spotsL S.a) L = S.a.length ∧ fr = rsum (ggL S'.a) ∧ (∀ r ∈ ggL S'.a, 0 ≤ r.len ∧ r.len ≤ 256) ∧ (ggL S'.a).length ≤ S.p.length + 1 ∧ (ggL S'.a).length ≤ 257 := by
  obtain ⟨g1, g2, g3, g4, g5⟩ := (cleaned_of h.is).gaps h.is
  have h1 := longs_nn (S := spotsL S.a) (l := L) (fun x hx => longW_nn h.is.check (h.is.reached.begs x hx))
  have h2 := rsum_takeG g3 (ggL S'.a).length (Nat.le_refl _)
  rw [List.take_length] at h2
  have h3 := h.fr
  unfold freeL at h3
  unfold pinsL at g4
  rw [List.length_map] at g4
  exact ⟨by omega, by omega, (cleaned_of h.is).len256, by omega, h3, g3, g4, g5⟩
set_option maxRecDepth 100000 in
set_option maxHeartbeats 2000000 in
theorem hfree_any (A : Option Addr) (n c : Nat) (RA : Option Addr) (rn rc : Nat) (PA : Option Addr) (pn pc : Nat) (HA : Option Addr) (hn hc : Nat) (S : St) (w : World) (hR : StR w w.heap.size A n RA rn PA pn HA hn S) (hK : StK n c rn pn hn S) :
    Calls Tryz.prog 80 #[.agg #[.slice A n c, .slice RA rn rc, .slice PA pn pc, .slice HA hn hc]] w fun e w' => Below w.heap.size w w' ∧
      ((StOk S ∧ ∃ (S' : St) (fr : Int) (L Y now : List Int) (A1 : Option Addr) (c1 : Nat), Coll S S' fr L Y now ∧ e = .returned (.tuple #[.int .i64 fr, .slice A1 (ggL S'.a).length c1, .int .i64 0]) ∧
        w'.ownsRow w.heap.size 194 2 (.slice A1 (ggL S'.a).length c1) (ggL S'.a).length (runsC (ggL S'.a))) ∨
       (stE S ≠ 0 ∧ e = .returned (.tuple #[.int .i64 0, .slice none 0 0, .int .i64 (stE S)]))) := by
  have HCo := Lib.hid (fun w hR => collectFn_any A n c RA rn rc PA pn pc HA hn hc S w hR hK)
  have HE := Lib.hid (@stE_ok S)
  generalize stE S = E at *
  have hb1 := below_new w (.cells #[.slice A n c, .slice RA rn rc, .slice PA pn pc, .slice HA hn hc] 41)
  have DS := Blk.new w 41 #[.slice A n c, .slice RA rn rc, .slice PA pn pc, .slice HA hn hc]
  obtain ⟨s0, s1, s2, s3⟩ := DS.four
  go_enter Tryz.func80, Tryz.ntmps80
  go_wp2_with fail
  refine (HCo.out _ ((hR.below hb1).more hb1.size)).mono ?_
  rintro e w2 ⟨hb2, ⟨hOK, S', fr, L, Y, now, A1, c1, A2, c2, A3, c3, A4, c4, hC, rfl, hO⟩ | ⟨h0, rfl⟩⟩
  · have hb02 := below_step hb1 hb2
    have hb03 := hb02.alloc hb02.size (.cells #[.slice A1 n c1, .slice A2 rn c2, .slice A3 pn c3, .slice A4 hn c4] 41)
    have DG := Blk.new w2 41 #[.slice A1 n c1, .slice A2 rn c2, .slice A3 pn c3, .slice A4 hn c4]
    obtain ⟨o0, o1, o2, o3⟩ := DG.four
    have HGp := Lib.hid (fun w hr => ggapsE_any A1 n c1 S'.a w hr (own_cap hO.a) (hC.wf hK.wf))
    have hrB := Reads.of_own (own_below hO.a (below_new w2 (.cells #[.slice A1 n c1, .slice A2 rn c2, .slice A3 pn c3, .slice A4 hn c4] 41)))
    obtain ⟨G, hG⟩ : ∃ G, G = ggL S'.a := ⟨_, rfl⟩
    have HG := Lib.hid hG
    rw [← hG] at HGp
    have HC := Lib.hid hC
    clear s0 s1 s2 s3 hO hC hG
    go_wp2_with fail
    refine (HGp.out _ hrB).mono ?_
    rintro e w4 ⟨hb4, A5, c5, rfl, hown⟩
    have hb04 := below_step hb03 hb4
    have HOW := Lib.hid (own_mono hown hb03.size)
    clear hown
    obtain ⟨g, hg⟩ : ∃ g, g = G.length := ⟨_, rfl⟩
    rw [← hg] at HOW
    have HGL := Lib.hid hg
    rw [← hg]
    clear hg
    go_wp2_with fail
    go_ret3
    refine ⟨hb04, .inl ⟨hOK, S', fr, L, Y, now, A5, c5, HC.out, ?_, ?_⟩⟩
    · rw [← HG.out, ← HGL.out]; rfl
    · rw [← HG.out, ← HGL.out]
      exact HOW.out
  · have g1 : (E != 0) = true := by simpa using h0
    have hb02 := (below_step hb1 hb2)
    have hb03 := hb02.alloc hb02.size (.cells #[.slice none 0 0, .slice none 0 0, .slice none 0 0, .slice none 0 0] 41)
    go_wp2_with fail
    go_ret3
    exact ⟨hb03, .inr ⟨h0, rfl⟩⟩
def argE (N : Int) : Int := if N < 1 ∨ 256 < N then 1 else 0
def NeverRet (S : St) (N : Int) (e : Ending) : Prop := ∃ (S' : St) (fr : Int) (L Y now : List Int), Coll S S' fr L Y now ∧ e = .returned (.tuple #[.bool (decide (argE N = 0) && decide (fr < N)), .int .i64 (argE N)])
def SureRet (S : St) (pn : Nat) (N : Int) (e : Ending) : Prop := ∃ (S' : St) (fr : Int) (L Y now : List Int), Coll S S' fr L Y now ∧ e = .returned (.tuple #[.bool (decide (argE N = 0) && decide ((pn + 1) * N ≤ fr)), .int .i64 (argE N)])
set_option maxRecDepth 100000 in
set_option maxHeartbeats 2000000 in
theorem live_any (A : Option Addr) (n c : Nat) (RA : Option Addr) (rn rc : Nat) (PA : Option Addr) (pn pc : Nat) (HA : Option Addr) (hn hc : Nat) (S : St) (w : World) (hR : StR w w.heap.size A n RA rn PA pn HA hn S) (hK : StK n c rn pn hn S) :
    Calls Tryz.prog 29 #[.agg #[.slice A n c, .slice RA rn rc, .slice PA pn pc, .slice HA hn hc]] w fun e w' => Below w.heap.size w w' ∧
      ((StOk S ∧ ∃ (S' : St) (fr : Int) (L Y now : List Int), Coll S S' fr L Y now ∧ e = .returned (.tuple #[.int .i64 (n - fr), .int .i64 0])) ∨
       (stE S ≠ 0 ∧ e = .returned (.tuple #[.int .i64 0, .int .i64 (stE S)]))) := by
  have HF := Lib.hid (fun w hR => hfree_any A n c RA rn rc PA pn pc HA hn hc S w hR hK)
  have HL := Lib.hid hR.lens.1
  generalize stE S = E at *
  have hb1 := below_new w (.cells #[.slice A n c, .slice RA rn rc, .slice PA pn pc, .slice HA hn hc] 41)
  have DS := Blk.new w 41 #[.slice A n c, .slice RA rn rc, .slice PA pn pc, .slice HA hn hc]
  obtain ⟨s0, s1, s2, s3⟩ := DS.four
  go_enter Tryz.func29, Tryz.ntmps29
  go_wp2_with fail
  refine (HF.out _ ((hR.below hb1).more hb1.size)).mono ?_
  rintro e w2 ⟨hb2, ⟨hOK, S', fr, L, Y, now, A1, c1, hC, rfl, hO⟩ | ⟨h0, rfl⟩⟩
  · have hb02 := below_step hb1 hb2
    have DS := DS.below hb2 DS.lt
    obtain ⟨s0, s1, s2, s3⟩ := DS.four
    obtain ⟨f0, f1, f2, -⟩ := hC.free
    have HC := Lib.hid hC
    rw [HL.out] at f1 f2
    have hw : IntKind.i64.wrap ((n : Int) - fr) = n - fr := IntWalk.i64_in _ (by omega)
    generalize (ggL S'.a).length = g at *
    clear hC hO
    go_wp2_with fail
    go_ret2
    exact ⟨hb02, .inl ⟨hOK, S', fr, L, Y, now, HC.out, rfl⟩⟩
  · have g1 : (E != 0) = true := by simpa using h0
    have hb02 := (below_step hb1 hb2)
    clear s0 s1 s2 s3
    go_wp2_with fail
    go_ret2
    exact ⟨hb02, .inr ⟨h0, rfl⟩⟩
def mostL : Int → List Rn → Int
  | m, [] => m
  | m, r :: l => mostL (max m r.len) l
end Go.Proofs.YtfikonmhbhcejaaGreatDoor

namespace Go.Proofs.YtfikonmhbhcejaaGreatDoor
open Go.RowKit
open Classical in
noncomputable def roomOf (S : St) : Int := if h : ∃ fr, ∃ (S' : St) (L Y now : List Int), Coll S S' fr L Y now then h.choose else 0
def holdE (S : St) (N : Int) : Int := if stE S ≠ 0 then stE S else argE N
noncomputable def neverB (S : St) (N : Int) : Bool := decide (holdE S N = 0) && decide (roomOf S < N)
noncomputable def sureB (S : St) (pn : Nat) (N : Int) : Bool := decide (holdE S N = 0) && decide (((pn : Int) + 1) * N ≤ roomOf S)
end Go.Proofs.YtfikonmhbhcejaaGreatDoor

namespace Go.Proofs.YtfikonmhbhcejaaGreatDoor
open Go.RowKit
def nfW : List Chk → Int
  | [] => 0
  | c :: cs => (if c.f then 0 else (c.len : Int)) + nfW cs
end Go.Proofs.YtfikonmhbhcejaaGreatDoor

namespace Go.Proofs.YtfikonmhbhcejaaGreatDoor
open Go.RowKit
theorem makeE_zero {S : St} {slot r b t : Int} {f : Bool} (h : makeE S slot r b t f = 0) : StOk S ∧ f = false ∧ headE r b t false = 0 ∧ ∃ k : Nat, slot = k ∧ k < S.r.length := by
  unfold makeE at h
  split at h
  · rename_i h0; exact absurd h h0
  · rename_i h0
    split at h
    · cases h
    · rename_i h1
      split at h
      · rename_i h2; exact absurd h h2
      · rename_i h2
        split at h
        · cases h
        · rename_i h3
          have hf : f = false := by simpa using h3
          subst hf
          exact ⟨stE_ok.1 (by simpa using h0), rfl, by simpa using h2, slot.toNat, by omega, by omega⟩
theorem taken_wf {a : List Int} (hc : checkE a = 0) (ha : W64 a) {j : Nat} {g : Rn} {r b t : Int} (hG : FirstGap a (1 + r + b) j g) (hE : headE r b t false = 0) : W64 (takenA a g r b t) := by
  obtain ⟨i, m, rfl, h1, h2⟩ := gap_facts hc (List.mem_of_getElem? hG.at_)
  have h256 := (parse_ok (checkE_ok.1 hc).1).1
  have hJ := join_ok hc
  have hwj : W64 (joined a) := by
    refine joinL_w64 _ _ ha (fun q hq => ?_)
    obtain ⟨i, k, rfl, h1, h2⟩ := hJ.runs q hq
    simp only [Int.toNat_natCast]
    omega
  unfold takenA takeL
  refine layL_w64 (set_w64 (fillL_w64 hwj) (word_wf hE)) ?_
  simp only [Int.toNat_natCast]
  omega
structure FreshIs (S T : St) (k : Nat) (r b t : Int) (x : Int) : Prop where
  ok : StOk T
  root : T.r[k]? = some x
  loc : 0 ≤ x
  spot : (⟨x, r, b, t, false⟩ : Spot) ∈ spotsL T.a
  zero : ∀ v ∈ bodyOf T.a ⟨x, r, b, t, false⟩, v = 0
  alike : ∀ (os os' : List Ob) (fo fo' : List Int), FormIs S.a (rootedL ⟨S.a, S.r.set k (-1), S.p, S.l⟩) os fo → FormIs T.a (rootedL ⟨T.a, T.r.set k (-1), T.p, T.l⟩) os' fo' → os = os' ∧ fo = fo'
theorem FreshIs.at_ {S T : St} {k : Nat} {r b t x : Int} (h : FreshIs S T k r b t x) : ∃ i, ObjAt T x ⟨x, r, b, t, false⟩ i := by
  obtain ⟨s, i, hO⟩ := obj_at h.ok (root_at (List.mem_of_getElem? h.root) h.loc)
  have h1 := spotAt_mem (checkE_ok.1 h.ok.arena).1 h.spot rfl
  obtain rfl := Option.some.inj (h1.symm.trans hO.spot)
  exact ⟨i, hO⟩
def FullIs (S : St) (r b : Int) : Prop := ∃ (S' : St) (fr : Int) (L Y now : List Int), Coll S S' fr L Y now ∧ mostL 0 (ggL S'.a) < 1 + r + b
end Go.Proofs.YtfikonmhbhcejaaGreatDoor

namespace Go.Proofs.YtfikonmhbhcejaaGreatDoor
open Go.RowKit
theorem there_of {S : St} (hS : StOk S) {X : Int} (hX : X ∈ S.begs) : thereB X = true := by
  have h1 := begs_lt hS.arena (hS.live X hX)
  have h2 := (parse_ok (checkE_ok.1 hS.arena).1).1
  simp [thereB]
  omega
theorem countP_nn {l : List Rn} (h : PinsOk l) (x : Int) : 0 ≤ countP l x := by
  by_cases hx : ∃ y ∈ l, y.loc = x
  · obtain ⟨y, hy, rfl⟩ := hx
    rw [countP_some h hy]
    have := bad_no.1 (h.ok y hy)
    omega
  · rw [countP_none (fun y hy e => hx ⟨y, hy, e⟩)]
    omega
theorem pin_law {S : St} (hS : StOk S) {X : Int} (hX : X ∈ S.begs) {j : Nat} (h : PinOk S X j) : StOk ⟨S.a, S.r, moreP S.p X j (countP S.p X + 1), S.l⟩ := by
  obtain ⟨h1, h2, h3⟩ := h
  have h0 := countP_nn hS.pins X
  have hp := hS.pins.more h1 (there_of hS hX) (v := countP S.p X + 1) (by omega) (by omega) h3
  refine hS.pinsSet hp (fun y hy => ?_)
  rcases (moreP_mem h1 hS.pins.rise y).1 hy with rfl | ⟨hy, -⟩
  · exact hX
  · exact pin_at hy
theorem body_ix {a : List Int} {s : Spot} {K : Nat} (hK : (K : Int) < s.b) : (bodyOf a s)[K]? = a[s.loc.toNat + 1 + s.r.toNat + K]? := by
  unfold bodyOf
  rw [List.getElem?_take, if_pos (by omega), List.getElem?_drop]
end Go.Proofs.YtfikonmhbhcejaaGreatDoor
