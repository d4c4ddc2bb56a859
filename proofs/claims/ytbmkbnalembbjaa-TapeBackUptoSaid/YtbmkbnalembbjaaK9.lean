/-
  Texts joined: CleanLaw TintWords CleanGaps IntF0 HandSwap RootSwap SlicesPin StorePuts CleanTwice StLaw TapeLaw2 StoreCollect.
-/
import Derived.Test.YtbmkbnalembbjaaRows
import Derived.Test.YtbmkbnalembbjaaK0
import Derived.Test.YtbmkbnalembbjaaK1
import Derived.Test.YtbmkbnalembbjaaK3
import Derived.Test.YtbmkbnalembbjaaK4
import Derived.Test.YtbmkbnalembbjaaK6
import Derived.Test.YtbmkbnalembbjaaK7
import Derived.Test.YtbmkbnalembbjaaK8
namespace Go.Proofs.Ytbmkbnalembbjaa
open Go.RowKit
structure Cleaned (a f p L Y b now : List Int) : Prop where
  laid : LaidOk a L Y b a.length
  closed : ClosedL a L
  plan : Planned a L p (longsV a L p) Y
  sub : ∀ x ∈ f ++ p, x ∈ L
  pin : ∀ x ∈ p, posL L Y x = x
  map : now ++ p = (f ++ p).map (posL L Y)
  len256 : a.length ≤ 256
  lenL : L.length ≤ 256
theorem cleaned_of {a f p L Y b now : List Int} (h : CleanIs a f p L Y b now) : Cleaned a f p L Y b now := by
  obtain ⟨h1, h2, h3, h4, rfl, rfl, rfl⟩ := h
  have hP := planned_of h4
  have h0 := (checkE_ok.1 h1).1
  have hN := (parse_ok h0).1
  have hC := reached_closed h1 h3
  have hpin : ∀ x ∈ p, posL L (slidGo p 0 L (longsV a L p)) x = x := by
    intro x hx
    obtain ⟨hK, -⟩ := kept_of h4
    have hxL := h3.roots x (List.mem_append_right _ hx)
    obtain ⟨j, y, hj, hy, e⟩ := posL_ex hP.nodup hP.len hxL
    have hS := slid_of a.length p L (longsV a L p) 0 hK (fun z hz => hP.nn2 z (List.mem_of_getElem? hz))
    obtain ⟨s, i, -, -, -, -, -, e6, -⟩ := hP.at_ j x y hj hy
    rw [e]
    exact (hS.at_ j x y s.long hj e6 hy).2.1 hx
  refine ⟨?_, hC, hP, h3.roots, hpin, ?_, hN, ?_⟩
  · exact laid_ok h0 hC hP.nodup hP.len hN hP.nn hP.rows
  · rw [List.map_append]
    congr 1
    conv => lhs; rw [← List.map_id p]
    exact List.map_congr_left (fun x hx => (hpin x hx).symm)
  · exact nodup_bound 256 L h3.once (fun x hx => begsL_bounds h0 x (h3.begs x hx))
theorem Cleaned.alive {a f p L Y b now : List Int} (h : Cleaned a f p L Y b now) : ∀ x ∈ now ++ p, x ∈ begsL (spotsL b) := by
  intro x hx
  rw [h.map] at hx
  obtain ⟨z, hz, rfl⟩ := List.mem_map.1 hx
  have hzL := h.sub z hz
  obtain ⟨s, hs⟩ := begsL_iff.1 (h.closed.begs z hzL)
  obtain ⟨s', hs', -⟩ := h.laid.iso.at_ z hzL s hs
  exact begsL_iff.2 ⟨s', hs'⟩
theorem Cleaned.form {a f p L Y b now : List Int} (h : Cleaned a f p L Y b now) {os os' : List Ob} {fr fr' : List Int} (h1 : FormIs a (f ++ p) os fr) (h2 : FormIs b (now ++ p) os' fr') : os = os' ∧ fr = fr' := by
  rw [h.map] at h2
  exact form_iso h.laid.iso h.closed h.sub h1 h2
theorem words_wf {a : List Int} (h : ∀ x ∈ a, 0 ≤ x ∧ x < 18446744073709551616) : ∀ x ∈ a, (Lit.int .u64 x).wf = true := fun x hx => by
  obtain ⟨h1, h2⟩ := h x hx
  simp [Lit.wf, IntKind.min, IntKind.max, IntKind.signed, IntKind.bits]
  omega
theorem wf_words {a : List Int} (h : ∀ x ∈ a, (Lit.int .u64 x).wf = true) : ∀ x ∈ a, 0 ≤ x ∧ x < 18446744073709551616 := fun x hx => by
  have := h x hx
  simp [Lit.wf, IntKind.min, IntKind.max, IntKind.signed, IntKind.bits] at this
  omega
theorem laid_wf {a keep Y : List Int} {N : Nat} (ha : ∀ x ∈ a, (Lit.int .u64 x).wf = true) (hR : RowsOk N 0 (rowsOf a keep Y)) (hN : N ≤ 256) (hY : ∀ y ∈ Y, y ≤ 256) (hn : keep.Nodup) (hl : Y.length = keep.length) (hC : ClosedL a keep) (hY0 : ∀ y ∈ Y, 0 ≤ y) :
    ∀ x ∈ chunksW (laidC N 0 (rowsOf a keep Y)), (Lit.int .u64 x).wf = true := by
  refine words_wf (fun x hx => ?_)
  obtain ⟨c, hc, hxc⟩ := List.mem_flatMap.1 hx
  have hcok := laidC_ok hR hN c hc
  obtain ⟨w1, w2, w3, w4, w5, w6, w7⟩ := rdw_word c.r c.b c.t c.f hcok.1
  rcases List.mem_cons.1 hxc with rfl | hxp
  · exact ⟨w6, w7⟩
  · rcases laidC_mem hR c hc with ⟨q, -, -, rfl⟩ | ⟨y, hy⟩
    · have := List.eq_of_mem_replicate hxp
      omega
    · obtain ⟨j, hj⟩ := List.mem_iff_getElem?.1 hy
      have hjl : j < keep.length := by have := (List.getElem?_eq_some_iff.1 hj).1; rw [rowsOf_length hl] at this; exact this
      have := rowsOf_at (a := a) (List.getElem?_eq_getElem hjl) (List.getElem?_eq_getElem (l := Y) (i := j) (by omega))
      rw [hj] at this
      simp only [Option.some.injEq, Prod.mk.injEq] at this
      obtain ⟨-, rfl⟩ := this
      obtain ⟨s, hs⟩ := begsL_iff.1 (hC.begs _ (List.getElem_mem hjl))
      rw [rowAt_some hs] at hxp
      rcases List.mem_append.1 hxp with h | h
      · obtain ⟨v, hv, rfl⟩ := List.mem_map.1 h
        unfold refT
        by_cases h0 : v = 0
        · rw [if_pos h0]; omega
        · rw [if_neg h0]
          have hk := Iso.link_of hC (List.getElem_mem hjl) hs v hv h0
          obtain ⟨i, u, -, hu, e⟩ := posL_ex hn hl hk
          have h1 := hY u (List.mem_of_getElem? hu)
          have h2 := hY0 u (List.mem_of_getElem? hu)
          rw [e]
          omega
      · unfold bodyOf at h
        exact wf_words ha x (List.mem_of_mem_drop (List.mem_of_mem_take h))
theorem Cleaned.wf {a f p L Y b now : List Int} (h : Cleaned a f p L Y b now) (hI : CleanIs a f p L Y b now) (ha : ∀ x ∈ a, (Lit.int .u64 x).wf = true) : (∀ x ∈ b, (Lit.int .u64 x).wf = true) ∧ ∀ x ∈ now, (Lit.int .i64 x).wf = true := by
  have hN := h.len256
  have hYb : ∀ y ∈ Y, 0 ≤ y ∧ y ≤ 256 := fun y hy => by
    obtain ⟨j, hj⟩ := List.mem_iff_getElem?.1 hy
    have hjl : j < L.length := by rw [← h.plan.len]; exact (List.getElem?_eq_some_iff.1 hj).1
    obtain ⟨s, i, -, -, -, e4, e5, -, e7, -⟩ := h.plan.at_ j _ y (List.getElem?_eq_getElem hjl) hj
    have := e4.r0
    have := e4.b0
    unfold Spot.long at e5
    omega
  constructor
  · obtain ⟨-, -, -, -, rfl, rfl, -⟩ := hI
    exact laid_wf ha h.plan.rows hN (fun y hy => (hYb y hy).2) h.plan.nodup h.plan.len h.closed h.plan.nn
  · obtain ⟨-, -, -, -, -, -, rfl⟩ := hI
    intro x hx
    obtain ⟨z, hz, rfl⟩ := List.mem_map.1 hx
    obtain ⟨i, u, -, hu, e⟩ := posL_ex h.plan.nodup h.plan.len (h.sub z (List.mem_append_left _ hz))
    have := hYb u (List.mem_of_getElem? hu)
    rw [e]
    simp [Lit.wf, IntKind.min, IntKind.max, IntKind.signed, IntKind.bits]
    omega
end Go.Proofs.Ytbmkbnalembbjaa

namespace Go.Proofs.Ytbmkbnalembbjaa
open Go.RowKit
def longW (S : List Spot) (x : Int) : Int := match spotAt S x with | some s => s.long | none => 0
def longsL (S : List Spot) : List Int → Int
  | [] => 0
  | x :: t => longW S x + longsL S t
end Go.Proofs.Ytbmkbnalembbjaa

namespace Go.Proofs.Ytbmkbnalembbjaa
open Go.RowKit
theorem longsL_isum {a L longs : List Int} (hl : longs.length = L.length) (h : ∀ (j : Nat) (x : Int), L[j]? = some x → longs[j]? = some (longW (spotsL a) x)) : isum longs = longsL (spotsL a) L := by
  induction L generalizing longs with
  | nil => obtain rfl : longs = [] := List.eq_nil_of_length_eq_zero hl
           rfl
  | cons x L ih =>
    cases longs with
    | nil => cases hl
    | cons k longs =>
      have h0 := h 0 x rfl
      simp only [List.getElem?_cons_zero, Option.some.injEq] at h0
      simp only [isum, longsL]
      rw [ih (by simpa using hl) (fun j y hy => by have := h (j + 1) y (by simpa using hy); simpa using this), h0]
theorem Cleaned.gaps {a f p L Y b now : List Int} (h : Cleaned a f p L Y b now) (hI : CleanIs a f p L Y b now) :
    ggL b = pgaps a.length 0 Y (longsV a L p) ∧ rsum (ggL b) + longsL (spotsL a) L = a.length ∧ (∀ r ∈ ggL b, 0 ≤ r.len ∧ r.len ≤ 256) ∧ (ggL b).length ≤ p.length + 1 ∧ (ggL b).length ≤ 257 := by
  have hg : ggL b = pgaps a.length 0 Y (longsV a L p) := by
    unfold ggL
    rw [if_pos h.laid.check, h.laid.gaps, h.plan.ys, h.plan.lens]
  obtain ⟨hK, hN⟩ := kept_of hI.longs
  have hs := pgaps_sum a.length p L (longsV a L p) 0 hK (fun x hx => h.plan.nn2 x (List.mem_of_getElem? hx)) (by omega)
  rw [← hI.y] at hs
  have hlen : (pgaps a.length 0 Y (longsV a L p)).length ≤ p.length + 1 := by
    rw [hI.y]
    exact pgaps_few (reached_rises hI.reached)
  have hlen2 : (pgaps a.length 0 Y (longsV a L p)).length ≤ L.length + 1 := by
    rw [hI.y]
    have h1 := pgaps_count a.length p L (longsV a L p) 0
    have h2 := List.length_filter_le (fun x => decide (x ∈ p)) L
    omega
  have hll := h.lenL
  have hsum : isum (longsV a L p) = longsL (spotsL a) L := longsL_isum h.plan.lenL (fun j x hx => by
    obtain ⟨s, i, e1, -, -, -, -, e6, -⟩ := h.plan.at_ j x _ hx (List.getElem?_eq_getElem (l := Y) (i := j) (by rw [h.plan.len]; exact (List.getElem?_eq_some_iff.1 hx).1))
    rw [e6]
    unfold longW
    rw [e1])
  rw [hg]
  refine ⟨rfl, by rw [← hsum, hs.1]; omega, fun r hr => ?_, hlen, by omega⟩
  have := hs.2 r hr
  omega
end Go.Proofs.Ytbmkbnalembbjaa

namespace Go.Proofs.Ytbmkbnalembbjaa
open Go.RowKit
end Go.Proofs.Ytbmkbnalembbjaa

namespace Go.Proofs.Ytbmkbnalembbjaa
open Go.RowKit
def swapS (t : List Int) (s : Slot) : Slot := if s.opn = true then ⟨s.gen, true, t.getD s.loc.toNat 0⟩ else s
end Go.Proofs.Ytbmkbnalembbjaa

namespace Go.Proofs.Ytbmkbnalembbjaa
open Go.RowKit
def swapE (r : List Int) (n : Int) (t : List Int) : Int := if rootE r n ≠ 0 then rootE r n else if (t.length : Int) ≠ n then 3 else if t.any (fun v => !inR v n) = true then 4 else 0
def swapV (t : List Int) (v : Int) : Int := if 0 ≤ v then t.getD v.toNat 0 else v
end Go.Proofs.Ytbmkbnalembbjaa

namespace Go.Proofs.Ytbmkbnalembbjaa
open Go.RowKit
set_option maxHeartbeats 400000 in
theorem equal_pin (A A2 : Option Addr) (n c c2 B B2 : Nat) (l : List Rn) (w : World) (hr : Reads w B 2 A n (runsC l)) (hr2 : Reads w B2 2 A2 n (runsC l)) (hn : n ≤ 1000000000000000000) :
    Calls Try.prog 17 #[.slice A n c, .slice A2 n c2] w fun e w' => e = .returned (.bool true) ∧ ∃ q, w' = w.drewN q := by
  go_enter Try.func17, Try.ntmps17
  go_wp2
  go_loopw [13] (fun i wr => ∃ j : Nat, j ≤ n ∧ i = .int .i64 j ∧ ∃ q, wr = w.drewN q) (fun i _ => n - (intOf i).toNat)
  case atStart => exact ⟨0, Nat.zero_le _, rfl, 0, rfl⟩
  case round =>
    obtain ⟨j, hj, rfl, q, rfl⟩ := hrel
    by_cases hlt : j < n
    · obtain ⟨ad, r, rfl, _, hs, c0, c1⟩ := hr.run hlt
      obtain ⟨ad2, r2, rfl, _, hs2, d0, d1⟩ := hr2.run hlt
      obtain rfl : r = r2 := Option.some.inj (hs.symm.trans hs2)
      obtain ⟨x, y⟩ := r
      dsimp only at *
      have hlt' : (j : Int) < n := by omega
      clear hs hs2
      go_wp2
      go_quiet (fail)
      go_wp2
      go_roundw
      case rel => exact ⟨j + 1, by omega, by go_num, _, rfl⟩
      case measure => simp [intOf]; omega
    · go_wp2
      go_ret
      exact ⟨rfl, _, rfl⟩
end Go.Proofs.Ytbmkbnalembbjaa

namespace Go.Proofs.Ytbmkbnalembbjaa
open Go.RowKit
theorem begs_lt {a : List Int} (h : checkE a = 0) {x : Int} (hx : x ∈ begsL (spotsL a)) : 0 ≤ x ∧ x < a.length := by
  have h2 := begsL_bounds (checkE_ok.1 h).1 _ hx
  obtain ⟨s, hs, rfl⟩ := List.mem_map.1 hx
  have h1 := ((parse_mem (parse_ok (checkE_ok.1 h).1).2) s (List.mem_filter.1 hs).1).1
  have h3 := h1.fits
  have h4 := h1.r0
  have h5 := h1.b0
  unfold Spot.long at h3
  omega
def putsL (t : List Int) : List Int → List Int → List Int
  | x :: f, y :: g => putsL (t.set x.toNat y) f g
  | _, _ => t
theorem putsL_other {f g : List Int} {k : Nat} (h : ∀ x ∈ f, x.toNat ≠ k) : ∀ t : List Int, (putsL t f g)[k]? = t[k]? := by
  induction f generalizing g with
  | nil => intro t; cases g <;> rfl
  | cons x f ih =>
    intro t
    cases g with
    | nil => rfl
    | cons y g =>
      rw [putsL, ih (fun z hz => h z (List.mem_cons_of_mem _ hz)), List.getElem?_set_ne (h x List.mem_cons_self)]
theorem putsL_at {f g : List Int} (hd : f.Nodup) (h0 : ∀ x ∈ f, 0 ≤ x) {i : Nat} {x y : Int} (hx : f[i]? = some x) (hy : g[i]? = some y) : ∀ t : List Int, x.toNat < t.length → (putsL t f g)[x.toNat]? = some y := by
  induction f generalizing g i with
  | nil => simp at hx
  | cons a f ih =>
    intro t ht
    cases g with
    | nil => simp at hy
    | cons b g =>
      rw [putsL]
      cases i with
      | zero =>
        simp only [List.getElem?_cons_zero, Option.some.injEq] at hx hy
        subst hx hy
        have hn := (List.nodup_cons.1 hd).1
        rw [putsL_other (fun z hz he => hn (by have h1 := h0 z (List.mem_cons_of_mem _ hz); have h2 := h0 a List.mem_cons_self; have : z = a := by omega
                                               rwa [← this]))]
        rw [List.getElem?_set_self ht]
      | succ i =>
        simp only [List.getElem?_cons_succ] at hx hy
        exact ih (List.nodup_cons.1 hd).2 (fun z hz => h0 z (List.mem_cons_of_mem _ hz)) hx hy _ (by rw [List.length_set]; exact ht)
theorem own_blk {w : World} {base size n g : Nat} {e t : TypeId} {v : Value} {xs : List Value} {cs : Array Value} (h : w.ownsRow base e size v n xs) (hB : Blk w g t cs) (hne : e ≠ t) : v.ownBlock ≠ some g := by
  intro hg
  rcases h.2 with ⟨rfl, _⟩ | ⟨g1, cap, cur, rfl, _, hh, _⟩
  · cases hg
  · obtain rfl : g1 = g := by simpa [Value.ownBlock] using hg
    have hB : w.heap[g1]? = some (.cells cs t (0, 0)) := hB
    rw [hh] at hB
    injection hB with hB
    injection hB with _ hB
    exact hne hB
def freeL (b : List Int) : Int := rsum (ggL b)
end Go.Proofs.Ytbmkbnalembbjaa

namespace Go.Proofs.Ytbmkbnalembbjaa
open Go.RowKit
theorem slid_pairwise {N : Int} (pinned : List Int) : ∀ (keep L : List Int) (e : Int), Kept N keep L → (∀ x, keep[0]? = some x → e ≤ x) → (slidGo pinned e keep L).Pairwise (· < ·) := by
  intro keep
  induction keep with
  | nil => intro L e _ _; simp [slidGo]
  | cons x ks ih =>
    intro L e hK he
    cases L with
    | nil => simp [slidGo]
    | cons n ls =>
      obtain ⟨x0, n1, n2, hxn⟩ := hK.at_ 0 x n rfl rfl
      have hex := he x rfl
      obtain ⟨z, hz⟩ : ∃ z, z = (if x ∈ pinned then x else e) := ⟨_, rfl⟩
      have hz1 : e ≤ z ∧ z ≤ x := by rw [hz]; split <;> omega
      have hh : ∀ y, ks[0]? = some y → z + n ≤ y := fun y hy => by have := hK.next 0 x n y rfl rfl (by simpa using hy); omega
      have hS := slid_of N pinned ks ls (z + n) hK.tail hh
      have hY : slidGo pinned e (x :: ks) (n :: ls) = z :: slidGo pinned (z + n) ks ls := by simp only [slidGo]; rw [← hz]
      rw [hY]
      refine List.pairwise_cons.2 ⟨fun y hy => ?_, ih ls (z + n) hK.tail hh⟩
      obtain ⟨j, hj⟩ := List.mem_iff_getElem?.1 hy
      have := hS.low j y hj
      omega
theorem slid_slid (pinned : List Int) : ∀ (keep L : List Int) (e : Int), slidGo pinned e (slidGo pinned e keep L) L = slidGo pinned e keep L := by
  intro keep
  induction keep with
  | nil => intro L e; simp [slidGo]
  | cons x ks ih =>
    intro L e
    cases L with
    | nil => simp [slidGo]
    | cons n ls =>
      obtain ⟨z, hz⟩ : ∃ z, z = (if x ∈ pinned then x else e) := ⟨_, rfl⟩
      have hzz : (if z ∈ pinned then z else e) = z := by
        by_cases h : z ∈ pinned
        · rw [if_pos h]
        · rw [if_neg h]
          by_cases hx : x ∈ pinned
          · rw [if_pos hx] at hz; rw [hz] at h; exact absurd hx h
          · rw [if_neg hx] at hz; exact hz.symm
      have hY : slidGo pinned e (x :: ks) (n :: ls) = z :: slidGo pinned (z + n) ks ls := by simp only [slidGo]; rw [← hz]
      rw [hY]
      simp only [slidGo]
      rw [hzz, ih]
theorem Cleaned.again {a f p L Y b now : List Int} (h : Cleaned a f p L Y b now) (hI : CleanIs a f p L Y b now) : CleanOk b now p ∧ ∀ L' Y' b' now', CleanIs b now p L' Y' b' now' → L' = Y ∧ Y' = Y ∧ b' = b ∧ now' = now := by
  refine ⟨⟨h.laid.check, h.alive, hI.rises⟩, fun L' Y' b' now' hI' => ?_⟩
  have hP := h.plan
  obtain ⟨hK, -⟩ := kept_of hI.longs
  have hYs : Y.Pairwise (· < ·) := by
    rw [hI.y]
    exact slid_pairwise p L _ 0 hK (fun x hx => hP.nn2 x (List.mem_of_getElem? hx))
  have hmap : L.map (posL L Y) = Y := posL_map hP.nodup hP.len
  have hR := reached_iso h.laid.iso hP.nn2 hI.reached (by rw [hmap]; exact hYs.imp (fun h => by omega))
  rw [← h.map, hmap] at hR
  obtain rfl : L' = Y := Reached.unique hI'.reached hR
  have hYn : L'.Nodup := by
    rw [List.nodup_iff_pairwise_ne]
    exact hYs.imp (fun h => by omega)
  have hP' := planned_of hI'.longs
  rw [← hI'.y] at hP'
  have hat : ∀ (j : Nat) (x y : Int), L[j]? = some x → L'[j]? = some y → ∃ s s', spotAt (spotsL a) x = some s ∧ spotAt (spotsL b) y = some s' ∧ s'.r = s.r ∧ s'.b = s.b ∧ s'.t = s.t ∧ bodyOf b s' = bodyOf a s ∧ refsOf b s' = (refsOf a s).map (refT (posL L L')) := by
    intro j x y hx hy
    have hxL := List.mem_of_getElem? hx
    obtain ⟨s, hs⟩ := begsL_iff.1 (h.closed.begs x hxL)
    obtain ⟨s', hs', e⟩ := h.laid.iso.at_ x hxL s hs
    rw [posL_at hP.nodup hx hy] at hs'
    exact ⟨s, s', hs, hs', e⟩
  have hlen : (longsV b L' p) = longsV a L p := by
    refine List.ext_getElem? (fun j => ?_)
    by_cases hj : j < L.length
    · have hx : L[j]? = some L[j] := List.getElem?_eq_getElem hj
      have hy : L'[j]? = some (L'[j]'(by rw [hP.len]; exact hj)) := List.getElem?_eq_getElem _
      have hy' : Y'[j]? = some (Y'[j]'(by rw [hP'.len, hP.len]; exact hj)) := List.getElem?_eq_getElem _
      obtain ⟨s, i, e1, -, -, -, -, e6, -⟩ := hP.at_ j _ _ hx hy
      obtain ⟨s2, i2, f1, -, -, -, -, f6, -⟩ := hP'.at_ j _ _ hy hy'
      obtain ⟨t, t', g1, g2, g3, g4, -⟩ := hat j _ _ hx hy
      obtain rfl := Option.some.inj (e1.symm.trans g1)
      obtain rfl := Option.some.inj (f1.symm.trans g2)
      rw [e6, f6]
      unfold Spot.long
      rw [g3, g4]
    · rw [List.getElem?_eq_none (by rw [hP'.lenL, hP.len]; omega), List.getElem?_eq_none (by rw [hP.lenL]; omega)]
  have hY' : Y' = L' := by
    rw [hI'.y, hlen]
    conv => lhs; rw [hI.y]
    rw [slid_slid]
    exact hI.y.symm
  subst hY'
  have hid : ∀ y ∈ Y', posL Y' Y' y = y := fun y hy => by
    obtain ⟨j, z, h1, h2, h3⟩ := posL_ex hYn rfl hy
    rw [h1] at h2
    rw [h3]
    exact (Option.some.inj h2).symm
  refine ⟨rfl, rfl, ?_, ?_⟩
  · have e1 := hI'.b
    unfold slidW at e1
    rw [← hI'.y, h.laid.len] at e1
    have e2 := hI.b
    unfold slidW at e2
    rw [← hI.y] at e2
    rw [e1]
    refine Eq.trans ?_ e2.symm
    congr 2
    refine List.ext_getElem? (fun j => ?_)
    by_cases hj : j < L.length
    · have hx : L[j]? = some L[j] := List.getElem?_eq_getElem hj
      have hy : Y'[j]? = some (Y'[j]'(by rw [hP.len]; exact hj)) := List.getElem?_eq_getElem _
      rw [rowsOf_at hy hy, rowsOf_at hx hy]
      obtain ⟨s, s', g1, g2, g3, g4, g5, g6, g7⟩ := hat j _ _ hx hy
      rw [rowAt_some g1, rowAt_some g2]
      congr 2
      unfold kC
      rw [g3, g4, g5, g6, g7, List.map_map]
      congr 2
      refine List.map_congr_left (fun v hv => ?_)
      show refT _ (refT _ v) = refT _ v
      by_cases h0 : v = 0
      · subst h0; rfl
      · have hk := Iso.link_of h.closed (List.mem_of_getElem? hx) g1 v hv h0
        have hn := h.laid.iso.nn _ hk
        have e : refT (posL L Y') v = posL L Y' (v - 1) + 1 := by unfold refT; rw [if_neg h0]
        rw [e]
        unfold refT
        rw [if_neg (by omega), show posL L Y' (v - 1) + 1 - 1 = posL L Y' (v - 1) by omega, hid]
        obtain ⟨i, u, -, hu, e2⟩ := posL_ex hP.nodup hP.len hk
        rw [e2]
        exact List.mem_of_getElem? hu
    · rw [List.getElem?_eq_none (by rw [rowsOf_length rfl, hP.len]; omega), List.getElem?_eq_none (by rw [rowsOf_length hP.len]; omega)]
  · rw [hI'.now]
    conv => rhs; rw [← List.map_id now]
    refine List.map_congr_left (fun x hx => hid x ?_)
    rw [hI.now] at hx
    obtain ⟨z, hz, rfl⟩ := List.mem_map.1 hx
    obtain ⟨i, u, -, hu, e2⟩ := posL_ex hP.nodup hP.len (h.sub z (List.mem_append_left _ hz))
    rw [e2]
    exact List.mem_of_getElem? hu
end Go.Proofs.Ytbmkbnalembbjaa

namespace Go.Proofs.Ytbmkbnalembbjaa
open Go.RowKit
theorem compact_strict {l : List Int} (h : l.Pairwise (fun x y => x ≤ y)) : (Lib.compact l).Pairwise (fun x y => x < y) := by
  unfold Lib.compact Lib.compactUpTo
  rw [List.pairwise_map]
  have h1 : ((List.range l.length).filter (Lib.keeps l.toArray)).Pairwise (fun i j => i < j) := List.pairwise_lt_range.sublist List.filter_sublist
  refine List.Pairwise.imp_of_mem ?_ h1
  intro i j hi hj hij
  obtain ⟨hi1, -⟩ := List.mem_filter.1 hi
  obtain ⟨hj1, hj2⟩ := List.mem_filter.1 hj
  have hi1 := List.mem_range.1 hi1
  have hj1 := List.mem_range.1 hj1
  have h2 : l.toArray[j]! ≠ l.toArray[j - 1]! := by
    simp only [Lib.keeps, decide_eq_true_eq] at hj2
    exact hj2.resolve_left (by omega)
  rw [getElem!_pos l.toArray i (by simpa using hi1), getElem!_pos l.toArray j (by simpa using hj1)]
  rw [getElem!_pos l.toArray j (by simpa using hj1), getElem!_pos l.toArray (j - 1) (by simp; omega)] at h2
  simp only [List.getElem_toArray] at h2 ⊢
  have h3 : ∀ (p q : Nat) (hp : p < l.length) (hq : q < l.length), p ≤ q → l[p] ≤ l[q] := by
    intro p q hp hq hpq
    rcases Nat.eq_or_lt_of_le hpq with rfl | hlt
    · exact Int.le_refl _
    · exact List.pairwise_iff_getElem.1 h p q hp hq hlt
  have h4 := h3 i (j - 1) hi1 (by omega) (by omega)
  have h5 := h3 (j - 1) j (by omega) hj1 (by omega)
  omega
theorem fromL_strict (r : List Int) (l : List Slot) (p : List Rn) : (fromL r l p).Pairwise (fun x y => x < y) := compact_strict (sortL_sorted _)
theorem fromL_nodup (r : List Int) (l : List Slot) (p : List Rn) : (fromL r l p).Nodup := by
  rw [List.nodup_iff_pairwise_ne]
  exact (fromL_strict r l p).imp (fun h => by omega)
structure St where
  a : List Int
  r : List Int
  p : List Rn
  l : List Slot
def St.begs (S : St) : List Int := fromL S.r S.l S.p
def StOk (S : St) : Prop := StoreOk S.a S.r S.l S.p
def rootedL (S : St) : List Int := S.r.filter (fun v => decide (0 ≤ v)) ++ openL S.l ++ pinsL S.p
theorem rooted_begs {S : St} {x : Int} : x ∈ S.begs ↔ x ∈ rootedL S := by
  unfold St.begs rootedL fromL
  rw [compact_mem, sortL_mem]
  simp only [List.mem_append, namedL_mem, List.mem_filter, decide_eq_true_eq]
theorem open_at {S : St} {s : Slot} (h : s ∈ S.l) (ho : s.opn = true) : s.loc ∈ S.begs := rooted_begs.2 (List.mem_append_left _ (List.mem_append_right _ (List.mem_map.2 ⟨s, List.mem_filter.2 ⟨h, ho⟩, rfl⟩)))
theorem root_at {S : St} {v : Int} (h : v ∈ S.r) (h0 : 0 ≤ v) : v ∈ S.begs := rooted_begs.2 (List.mem_append_left _ (List.mem_append_left _ (List.mem_filter.2 ⟨h, by simpa using h0⟩)))
def phiV (φ : Int → Int) (v : Int) : Int := if 0 ≤ v then φ v else v
def phiS (φ : Int → Int) (s : Slot) : Slot := if s.opn = true then ⟨s.gen, true, φ s.loc⟩ else s
structure Coll (S S' : St) (fr : Int) (L Y now : List Int) : Prop where
  is : CleanIs S.a S.begs (pinsL S.p) L Y S'.a now
  r : S'.r = S.r.map (swapV (putsL (List.replicate S.a.length 0) S.begs now))
  p : S'.p = S.p
  l : S'.l = S.l.map (swapS (putsL (List.replicate 256 0) S.begs now))
  fr : fr = freeL S'.a
section
variable {S S' S2 : St} {fr fr2 : Int} {L Y now L2 Y2 now2 : List Int}
theorem Coll.put (h : Coll S S' fr L Y now) (hS : StOk S) {k : Nat} (hk : S.a.length ≤ k) {x : Int} (hx : x ∈ S.begs) : 0 ≤ x ∧ x < S.a.length ∧ (putsL (List.replicate k 0) S.begs now).getD x.toNat 0 = posL L Y x := by
  have h1 : ∀ x ∈ S.begs, 0 ≤ x ∧ x < S.a.length := fun x hx => begs_lt hS.arena (hS.live x hx)
  obtain ⟨i, hi⟩ := List.mem_iff_getElem?.1 hx
  have hy : now[i]? = some (posL L Y x) := by rw [h.is.now, List.getElem?_map, hi]; rfl
  have h2 := putsL_at (show S.begs.Nodup from fromL_nodup S.r S.l S.p) (fun x hx => (h1 x hx).1) hi hy (List.replicate k 0) (by rw [List.length_replicate]; have := h1 x hx; omega)
  refine ⟨(h1 x hx).1, (h1 x hx).2, ?_⟩
  rw [List.getD_eq_getElem?_getD, h2]
  rfl
theorem Coll.r' (h : Coll S S' fr L Y now) (hS : StOk S) : S'.r = S.r.map (phiV (posL L Y)) := by
  rw [h.r]
  refine List.map_congr_left (fun v hv => ?_)
  unfold swapV phiV
  by_cases h0 : 0 ≤ v
  · rw [if_pos h0, if_pos h0, (h.put hS (Nat.le_refl _) (root_at hv h0)).2.2]
  · rw [if_neg h0, if_neg h0]
theorem Coll.l' (h : Coll S S' fr L Y now) (hS : StOk S) : S'.l = S.l.map (phiS (posL L Y)) := by
  rw [h.l]
  refine List.map_congr_left (fun s hs => ?_)
  unfold swapS phiS
  by_cases h0 : s.opn = true
  · rw [if_pos h0, if_pos h0, (h.put hS (cleaned_of h.is).len256 (open_at hs h0)).2.2]
  · rw [if_neg h0, if_neg h0]
theorem Coll.pos (h : Coll S S' fr L Y now) {x : Int} (hx : x ∈ S.begs) : 0 ≤ posL L Y x ∧ posL L Y x < S.a.length ∧ posL L Y x ∈ begsL (spotsL S'.a) := by
  have hC := cleaned_of h.is
  have h1 : posL L Y x ∈ now := by rw [h.is.now]; exact List.mem_map.2 ⟨x, hx, rfl⟩
  have h2 := hC.alive _ (List.mem_append_left _ h1)
  have h3 := begs_lt hC.laid.check h2
  have h4 := hC.laid.len
  exact ⟨h3.1, by omega, h2⟩
theorem Coll.pinned (h : Coll S S' fr L Y now) {y : Rn} (hy : y ∈ S.p) : posL L Y y.loc = y.loc := (cleaned_of h.is).pin _ (List.mem_map.2 ⟨y, hy, rfl⟩)
theorem filter_phi {φ : Int → Int} : ∀ {r : List Int}, (∀ v ∈ r, 0 ≤ v → 0 ≤ φ v) → (r.map (phiV φ)).filter (fun v => decide (0 ≤ v)) = (r.filter (fun v => decide (0 ≤ v))).map φ
  | [], _ => rfl
  | v :: r, h => by
    have ih := filter_phi (φ := φ) (r := r) (fun v hv => h v (List.mem_cons_of_mem _ hv))
    by_cases h0 : 0 ≤ v
    · have h1 := h v List.mem_cons_self h0
      rw [List.map_cons, show phiV φ v = φ v from if_pos h0, List.filter_cons_of_pos (by simpa using h1), List.filter_cons_of_pos (by simpa using h0), List.map_cons, ih]
    · rw [List.map_cons, show phiV φ v = v from if_neg h0, List.filter_cons_of_neg (by simpa using h0), List.filter_cons_of_neg (by simpa using h0), ih]
theorem phiS_opn (φ : Int → Int) (s : Slot) : (phiS φ s).opn = s.opn := by
  unfold phiS
  by_cases h : s.opn = true
  · rw [if_pos h]; exact h.symm
  · rw [if_neg h]
theorem open_phi {φ : Int → Int} : ∀ (l : List Slot), openL (l.map (phiS φ)) = (openL l).map φ
  | [] => rfl
  | s :: l => by
    have ih := open_phi (φ := φ) l
    unfold openL at ih ⊢
    by_cases h : s.opn = true
    · rw [List.map_cons, List.filter_cons_of_pos (by rw [phiS_opn]; exact h), List.filter_cons_of_pos h, List.map_cons, List.map_cons, List.map_cons, ih]
      rw [show (phiS φ s).loc = φ s.loc by unfold phiS; rw [if_pos h]]
    · rw [List.map_cons, List.filter_cons_of_neg (by rw [phiS_opn]; exact h), List.filter_cons_of_neg h, ih]
theorem Coll.rooted (h : Coll S S' fr L Y now) (hS : StOk S) : rootedL S' = (rootedL S).map (posL L Y) := by
  unfold rootedL
  rw [h.r' hS, h.l' hS, h.p, List.map_append (f := posL L Y), List.map_append (f := posL L Y), filter_phi (fun v hv h0 => (h.pos (root_at hv h0)).1), open_phi]
  congr 1
  conv => lhs; rw [← List.map_id (pinsL S.p)]
  exact List.map_congr_left (fun x hx => ((cleaned_of h.is).pin x hx).symm)
theorem Coll.begs' (h : Coll S S' fr L Y now) (hS : StOk S) {x : Int} : x ∈ S'.begs ↔ x ∈ now := by
  rw [rooted_begs, h.rooted hS, h.is.now, List.mem_map, List.mem_map]
  simp only [rooted_begs]
theorem slotE_loc {s : Slot} {x : Int} (h : slotE s = 0) (ho : s.opn = true) (hx : 0 ≤ x ∧ x < 256) : slotE ⟨s.gen, true, x⟩ = 0 := by
  obtain ⟨g, o, y⟩ := s
  subst ho
  unfold slotE at h ⊢
  simp only at h ⊢
  split at h
  · cases h
  · rename_i h1
    rw [if_neg (by omega)]
    split at h
    · cases h
    · rename_i h2
      rw [if_neg (by simp at h2 ⊢; omega)]
theorem Coll.ok (h : Coll S S' fr L Y now) (hS : StOk S) : StOk S' := by
  have hC := cleaned_of h.is
  have hlen := hC.laid.len
  have h256 := hC.len256
  refine ⟨hC.laid.check, ?_, ?_, ?_, ?_⟩
  · obtain ⟨e1, e2, e3, e4⟩ := rootE_ok hS.roots
    refine rootE_of (by omega) (by omega) (by rw [h.r, List.length_map]; exact e3) ?_
    intro v hv
    rw [h.r' hS] at hv
    obtain ⟨u, hu, rfl⟩ := List.mem_map.1 hv
    have h1 := e4 u hu
    unfold phiV
    by_cases h0 : 0 ≤ u
    · rw [if_pos h0]
      have := h.pos (root_at hu h0)
      omega
    · rw [if_neg h0]
      omega
  · rw [h.p]; exact hS.pins
  · obtain ⟨e1, e2⟩ := handE_ok.1 hS.hands
    refine handE_ok.2 ⟨by rw [h.l, List.length_map]; exact e1, ?_⟩
    intro s hs
    rw [h.l' hS] at hs
    obtain ⟨u, hu, rfl⟩ := List.mem_map.1 hs
    have h1 := e2 u hu
    unfold phiS
    by_cases h0 : u.opn = true
    · rw [if_pos h0]
      have := h.pos (open_at hu h0)
      exact slotE_loc h1 h0 (by omega)
    · rw [if_neg h0]
      exact h1
  · intro x hx
    have h1 : x ∈ now := (h.begs' hS).1 hx
    exact hC.alive x (List.mem_append_left _ h1)
theorem Coll.unique (h : Coll S S' fr L Y now) (h2 : Coll S S2 fr2 L2 Y2 now2) : S2 = S' ∧ fr2 = fr := by
  have hL : L2 = L := Reached.unique h2.is.reached h.is.reached
  subst hL
  have hY : Y2 = Y := by rw [h2.is.y, h.is.y]
  subst hY
  have hn : now2 = now := by rw [h2.is.now, h.is.now]
  subst hn
  have hb : S2.a = S'.a := by rw [h2.is.b, h.is.b]
  obtain ⟨a, r, p, l⟩ := S'
  obtain ⟨a2, r2, p2, l2⟩ := S2
  have e1 := h.r; have e2 := h2.r; have e3 := h.p; have e4 := h2.p; have e5 := h.l; have e6 := h2.l; have e7 := h.fr; have e8 := h2.fr
  simp only at hb e1 e2 e3 e4 e5 e6 e7 e8
  subst hb e3 e4 e7 e8
  rw [e1, e2, e5, e6]
  exact ⟨rfl, rfl⟩
theorem Coll.again (h : Coll S S' fr L Y now) (hS : StOk S) (h2 : Coll S' S2 fr2 L2 Y2 now2) : S2 = S' ∧ fr2 = fr := by
  have hC := cleaned_of h.is
  have hb : S'.begs = now := by
    have hn : now.Pairwise (fun x y => x < y) := by
      obtain ⟨hK, -⟩ := kept_of h.is.longs
      have hP := hC.plan
      have hYs : Y.Pairwise (· < ·) := by
        rw [h.is.y]
        exact slid_pairwise _ L _ 0 hK (fun x hx => hP.nn2 x (List.mem_of_getElem? hx))
      rw [h.is.now, List.pairwise_map]
      refine List.Pairwise.imp_of_mem ?_ (fromL_strict S.r S.l S.p)
      intro x x' hx hx' hlt
      obtain ⟨j, y, hj, hy, e⟩ := posL_ex hP.nodup hP.len (h.is.reached.roots x (List.mem_append_left _ hx))
      obtain ⟨j', y', hj', hy', e'⟩ := posL_ex hP.nodup hP.len (h.is.reached.roots x' (List.mem_append_left _ hx'))
      rw [e, e']
      obtain ⟨q1, rfl⟩ := List.getElem?_eq_some_iff.1 hj
      obtain ⟨q2, rfl⟩ := List.getElem?_eq_some_iff.1 hj'
      obtain ⟨q3, rfl⟩ := List.getElem?_eq_some_iff.1 hy
      obtain ⟨q4, rfl⟩ := List.getElem?_eq_some_iff.1 hy'
      refine List.pairwise_iff_getElem.1 hYs j j' q3 q4 ?_
      rcases Nat.lt_trichotomy j j' with g | g | g
      · exact g
      · subst g; omega
      · have := List.pairwise_iff_getElem.1 h.is.reached.sorted j' j q2 q1 g
        omega
    refine sorted_unique ((fromL_strict _ _ _).imp (fun h => by omega)) (fromL_nodup _ _ _) (hn.imp (fun h => by omega)) ?_ (fun x => h.begs' hS)
    rw [List.nodup_iff_pairwise_ne]
    exact hn.imp (fun h => by omega)
  have hI := h2.is
  rw [hb, h.p] at hI
  obtain ⟨-, hag⟩ := hC.again h.is
  obtain ⟨e1, e2, e3, e4⟩ := hag _ _ _ _ hI
  have hS' := h.ok hS
  have hid : ∀ x ∈ S'.begs, posL L2 Y2 x = x := by
    intro x hx
    have h1 := hI.reached.roots x (List.mem_append_left _ (by rw [← hb]; exact hx))
    obtain ⟨j, y, hj, hy, e⟩ := posL_ex (planned_of hI.longs).nodup (show Y2.length = L2.length by rw [e1, e2]) h1
    rw [e1] at hj
    rw [e2] at hy
    rw [e]
    exact Option.some.inj (hy.symm.trans hj)
  obtain ⟨a2, r2, p2, l2⟩ := S2
  obtain ⟨a1, r1, p1, l1⟩ := S'
  have g1 := h2.r' hS'
  have g2 := h2.l' hS'
  have g3 := h2.p
  have g4 := h2.fr
  have g5 := h.fr
  simp only at e3 g1 g2 g3 g4 g5
  subst e3 g3
  have f1 : r2 = r1 := by
    rw [g1]
    conv => rhs; rw [← List.map_id r1]
    refine List.map_congr_left (fun v hv => ?_)
    unfold phiV
    by_cases h0 : 0 ≤ v
    · rw [if_pos h0, hid v (root_at hv h0)]; rfl
    · rw [if_neg h0]; rfl
  have f2 : l2 = l1 := by
    rw [g2]
    conv => rhs; rw [← List.map_id l1]
    refine List.map_congr_left (fun s hs => ?_)
    unfold phiS
    by_cases h0 : s.opn = true
    · rw [if_pos h0, hid _ (open_at hs h0)]
      obtain ⟨g, o, y⟩ := s
      simp only at h0
      subst h0
      rfl
    · rw [if_neg h0]; rfl
  subst f1 f2
  exact ⟨rfl, by rw [g4, g5]⟩
end
end Go.Proofs.Ytbmkbnalembbjaa

namespace Go.Proofs.Ytbmkbnalembbjaa
def fA (l : List Nat) : Int := (l.getD 0 0 : Nat)
def fR (l : List Nat) : Int := RowKit.wrap64 (i64N (l.getD 0 0) - 1)
def fP (l : List Nat) : Rn := ⟨i64N (l.getD 0 0), i64N (l.getD 1 0)⟩
def fH (l : List Nat) : Slot := ⟨i64N (l.getD 0 0), decide (l.getD 1 0 = 1), i64N (l.getD 2 0)⟩
def badH (l : List Nat) : Bool := decide (1 < l.getD 1 0)
def noBad (_ : List Nat) : Bool := false
def gA (x : Int) : List Nat := [u64N x]
def gR (v : Int) : List Nat := [u64N (RowKit.wrap64 (v + 1))]
def gP (p : Rn) : List Nat := [u64N p.loc, u64N p.len]
def gH (s : Slot) : List Nat := [u64N s.gen, if s.opn then 1 else 0, u64N s.loc]
theorem list1n {l : List Nat} (h : l.length = 1) : ∃ a, l = [a] := by
  match l, h with
  | [a], _ => exact ⟨a, rfl⟩
theorem list2n {l : List Nat} (h : l.length = 2) : ∃ a b, l = [a, b] := by
  match l, h with
  | [a, b], _ => exact ⟨a, b, rfl⟩
theorem list3n {l : List Nat} (h : l.length = 3) : ∃ a b c, l = [a, b, c] := by
  match l, h with
  | [a, b, c], _ => exact ⟨a, b, c, rfl⟩
theorem gA_fA : ∀ l : List Nat, l.length = 1 → (∀ n ∈ l, n < 2 ^ 64) → noBad l = false → gA (fA l) = l := by
  intro l h hl _
  obtain ⟨a, rfl⟩ := list1n h
  simp only [gA, fA, List.getD_cons_zero]
  rw [u64N_nat (hl a (by simp))]
theorem gR_fR : ∀ l : List Nat, l.length = 1 → (∀ n ∈ l, n < 2 ^ 64) → noBad l = false → gR (fR l) = l := by
  intro l h hl _
  obtain ⟨a, rfl⟩ := list1n h
  simp only [gR, fR, List.getD_cons_zero]
  rw [root_back (hl a (by simp))]
theorem gP_fP : ∀ l : List Nat, l.length = 2 → (∀ n ∈ l, n < 2 ^ 64) → noBad l = false → gP (fP l) = l := by
  intro l h hl _
  obtain ⟨a, b, rfl⟩ := list2n h
  simp only [gP, fP, List.getD_cons_zero, List.getD_cons_succ]
  rw [u64N_i64N (hl a (by simp)), u64N_i64N (hl b (by simp))]
theorem gH_fH : ∀ l : List Nat, l.length = 3 → (∀ n ∈ l, n < 2 ^ 64) → badH l = false → gH (fH l) = l := by
  intro l h hl hb
  obtain ⟨a, b, c, rfl⟩ := list3n h
  simp only [badH, List.getD_cons_zero, List.getD_cons_succ, decide_eq_false_iff_not] at hb
  simp only [gH, fH, List.getD_cons_zero, List.getD_cons_succ, decide_eq_true_eq]
  rw [u64N_i64N (hl a (by simp)), u64N_i64N (hl c (by simp))]
  congr 2
  split <;> omega
structure StW (S : St) : Prop where
  a : ∀ x ∈ S.a, 0 ≤ x ∧ x < 18446744073709551616
  r : ∀ v ∈ S.r, -1 ≤ v ∧ v < 9223372036854775807
  p : ∀ x ∈ S.p, i64R x.loc ∧ i64R x.len
  l : ∀ s ∈ S.l, i64R s.gen ∧ i64R s.loc
def bodyN (S : St) : List Nat := S.a.flatMap gA ++ (S.r.flatMap gR ++ (S.p.flatMap gP ++ S.l.flatMap gH))
def stN (S : St) : List Nat := S.a.length :: S.r.length :: S.p.length :: S.l.length :: bodyN S
theorem fA_gA : ∀ x : Int, (0 ≤ x ∧ x < 18446744073709551616) → (gA x).length = 1 ∧ (∀ n ∈ gA x, n < 2 ^ 64) ∧ fA (gA x) = x ∧ noBad (gA x) = false := by
  intro x h
  refine ⟨rfl, fun n hn => ?_, ?_, rfl⟩
  · rw [List.mem_singleton.1 hn]; exact u64N_lt _
  · exact u64N_id h
theorem fR_gR : ∀ x : Int, (-1 ≤ x ∧ x < 9223372036854775807) → (gR x).length = 1 ∧ (∀ n ∈ gR x, n < 2 ^ 64) ∧ fR (gR x) = x ∧ noBad (gR x) = false := by
  intro x h
  refine ⟨rfl, fun n hn => ?_, ?_, rfl⟩
  · rw [List.mem_singleton.1 hn]; exact u64N_lt _
  · exact root_forth h
theorem fP_gP : ∀ x : Rn, (i64R x.loc ∧ i64R x.len) → (gP x).length = 2 ∧ (∀ n ∈ gP x, n < 2 ^ 64) ∧ fP (gP x) = x ∧ noBad (gP x) = false := by
  rintro ⟨a, b⟩ ⟨h1, h2⟩
  refine ⟨rfl, fun n hn => ?_, ?_, rfl⟩
  · simp only [gP, List.mem_cons, List.not_mem_nil, or_false] at hn
    rcases hn with rfl | rfl <;> exact u64N_lt _
  · simp only [gP, fP, List.getD_cons_zero, List.getD_cons_succ]
    rw [i64N_u64N h1, i64N_u64N h2]
theorem fH_gH : ∀ x : Slot, (i64R x.gen ∧ i64R x.loc) → (gH x).length = 3 ∧ (∀ n ∈ gH x, n < 2 ^ 64) ∧ fH (gH x) = x ∧ badH (gH x) = false := by
  rintro ⟨g, o, l⟩ ⟨h1, h2⟩
  refine ⟨rfl, fun n hn => ?_, ?_, ?_⟩
  · simp only [gH, List.mem_cons, List.not_mem_nil, or_false] at hn
    rcases hn with rfl | rfl | rfl
    · exact u64N_lt _
    · split <;> decide
    · exact u64N_lt _
  · simp only [gH, fH, List.getD_cons_zero, List.getD_cons_succ]
    rw [i64N_u64N h1, i64N_u64N h2]
    cases o <;> rfl
  · cases o <;> rfl
def readS (T : List Nat) : St × List Nat × Bool :=
  let c1 := cntR T false
  let c2 := cntR c1.2.1 c1.2.2
  let c3 := cntR c2.2.1 c2.2.2
  let c4 := cntR c3.2.1 c3.2.2
  let A := recR 1 fA noBad c1.1 c4.2.1 c4.2.2
  let R := recR 1 fR noBad c2.1 A.2.1 A.2.2
  let P := recR 2 fP noBad c3.1 R.2.1 R.2.2
  let H := recR 3 fH badH c4.1 P.2.1 P.2.2
  (⟨A.1, R.1, P.1, H.1⟩, H.2)
theorem readS_read {T : List Nat} (hT : ∀ c ∈ T, c < 256) (h : (readS T).2 = ([], false)) : T = encN (stN (readS T).1) := by
  simp only [readS] at h ⊢
  generalize h1 : cntR T false = c1 at *
  generalize h2 : cntR c1.2.1 c1.2.2 = c2 at *
  generalize h3 : cntR c2.2.1 c2.2.2 = c3 at *
  generalize h4 : cntR c3.2.1 c3.2.2 = c4 at *
  generalize h5 : recR 1 fA noBad c1.1 c4.2.1 c4.2.2 = A at *
  generalize h6 : recR 1 fR noBad c2.1 A.2.1 A.2.2 = R at *
  generalize h7 : recR 2 fP noBad c3.1 R.2.1 R.2.2 = P at *
  generalize h8 : recR 3 fH badH c4.1 P.2.1 P.2.2 = H at *
  obtain ⟨s1, e1⟩ := cntR_suffix T false
  rw [h1] at e1
  have b1 := bytes_suffix e1 hT
  obtain ⟨s2, e2⟩ := cntR_suffix c1.2.1 c1.2.2
  rw [h2] at e2
  have b2 := bytes_suffix e2 b1
  obtain ⟨s3, e3⟩ := cntR_suffix c2.2.1 c2.2.2
  rw [h3] at e3
  have b3 := bytes_suffix e3 b2
  obtain ⟨s4, e4⟩ := cntR_suffix c3.2.1 c3.2.2
  rw [h4] at e4
  have b4 := bytes_suffix e4 b3
  obtain ⟨s5, e5⟩ := recR_suffix (m := 1) (f := fA) (bad := noBad) c1.1 c4.2.1 c4.2.2
  rw [h5] at e5
  have b5 := bytes_suffix e5 b4
  obtain ⟨s6, e6⟩ := recR_suffix (m := 1) (f := fR) (bad := noBad) c2.1 A.2.1 A.2.2
  rw [h6] at e6
  have b6 := bytes_suffix e6 b5
  obtain ⟨s7, e7⟩ := recR_suffix (m := 2) (f := fP) (bad := noBad) c3.1 R.2.1 R.2.2
  rw [h7] at e7
  have b7 := bytes_suffix e7 b6
  have hH : H.2.1 = [] ∧ H.2.2 = false := by rw [h]; exact ⟨rfl, rfl⟩
  obtain ⟨r8, f8⟩ := recR_read gH_fH c4.1 P.2.1 P.2.2 b7 (by rw [h8]; exact hH.2)
  obtain ⟨r7, f7⟩ := recR_read gP_fP c3.1 R.2.1 R.2.2 b6 (by rw [h7]; exact f8)
  obtain ⟨r6, f6⟩ := recR_read gR_fR c2.1 A.2.1 A.2.2 b5 (by rw [h6]; exact f7)
  obtain ⟨r5, f5⟩ := recR_read gA_fA c1.1 c4.2.1 c4.2.2 b4 (by rw [h5]; exact f6)
  obtain ⟨r4, f4⟩ := cntR_read b3 (by rw [h4]; exact f5)
  obtain ⟨r3, f3⟩ := cntR_read b2 (by rw [h3]; exact f4)
  obtain ⟨r2, f2⟩ := cntR_read b1 (by rw [h2]; exact f3)
  obtain ⟨r1, -⟩ := cntR_read hT (by rw [h1]; exact f2)
  rw [h1] at r1
  rw [h2] at r2
  rw [h3] at r3
  rw [h4] at r4
  rw [h5] at r5
  rw [h6] at r6
  rw [h7] at r7
  rw [h8, hH.1, List.append_nil] at r8
  have l1 : A.1.length = c1.1 := by rw [← h5]; exact recR_length _ _ _
  have l2 : R.1.length = c2.1 := by rw [← h6]; exact recR_length _ _ _
  have l3 : P.1.length = c3.1 := by rw [← h7]; exact recR_length _ _ _
  have l4 : H.1.length = c4.1 := by rw [← h8]; exact recR_length _ _ _
  have hst : encN (stN ⟨A.1, R.1, P.1, H.1⟩) = varN c1.1 ++ (varN c2.1 ++ (varN c3.1 ++ (varN c4.1 ++ (encN (A.1.flatMap gA) ++ (encN (R.1.flatMap gR) ++ (encN (P.1.flatMap gP) ++ encN (H.1.flatMap gH))))))) := by
    unfold stN bodyN
    simp only [l1, l2, l3, l4]
    rw [encN, List.flatMap_cons, List.flatMap_cons, List.flatMap_cons, List.flatMap_cons]
    congr 4
    show encN _ = _
    rw [encN_append, encN_append, encN_append]
  rw [hst, ← r8, ← r7, ← r6, ← r5, ← r4, ← r3, ← r2, ← r1]
theorem flat_len1 {α : Type} (g : α → List Nat) (h : ∀ x, 1 ≤ (g x).length) (l : List α) : l.length ≤ (l.flatMap g).length := by
  induction l with
  | nil => simp
  | cons x l ih =>
    have := h x
    simp only [List.flatMap_cons, List.length_append, List.length_cons]
    omega
theorem readS_put {S : St} (hS : StW S) (h1 : S.a.length < 2 ^ 64) (h2 : S.r.length < 2 ^ 64) (h3 : S.p.length < 2 ^ 64) (h4 : S.l.length < 2 ^ 64) : readS (encN (stN S)) = (S, [], false) := by
  have q1 := flat_len1 gA (fun _ => Nat.le_refl _) S.a
  have q2 := flat_len1 gR (fun _ => Nat.le_refl _) S.r
  have q3 := flat_len1 gP (fun _ => by show 1 ≤ 2; omega) S.p
  have q4 := flat_len1 gH (fun _ => by show 1 ≤ 3; omega) S.l
  have hB : encN (bodyN S) = encN (S.a.flatMap gA) ++ (encN (S.r.flatMap gR) ++ (encN (S.p.flatMap gP) ++ (encN (S.l.flatMap gH) ++ []))) := by
    unfold bodyN
    rw [encN_append, encN_append, encN_append, List.append_nil]
  have hlen := encN_len (bodyN S)
  have hbl : (bodyN S).length = (S.a.flatMap gA).length + ((S.r.flatMap gR).length + ((S.p.flatMap gP).length + (S.l.flatMap gH).length)) := by
    unfold bodyN
    simp only [List.length_append]
  have e0 : encN (stN S) = varN S.a.length ++ (varN S.r.length ++ (varN S.p.length ++ (varN S.l.length ++ encN (bodyN S)))) := by
    unfold stN
    rw [encN, List.flatMap_cons, List.flatMap_cons, List.flatMap_cons, List.flatMap_cons]
    rfl
  unfold readS
  rw [e0]
  rw [cntR_put (n := S.a.length) h1 (by simp only [List.length_append]; omega)]
  simp only
  rw [cntR_put (n := S.r.length) h2 (by simp only [List.length_append]; omega)]
  simp only
  rw [cntR_put (n := S.p.length) h3 (by simp only [List.length_append]; omega)]
  simp only
  rw [cntR_put (n := S.l.length) h4 (by omega)]
  simp only
  rw [hB, recR_put fA_gA _ S.a _ _ rfl hS.a]
  simp only
  rw [recR_put fR_gR _ S.r _ _ rfl hS.r]
  simp only
  rw [recR_put fP_gP _ S.p _ _ rfl hS.p]
  simp only
  rw [recR_put fH_gH _ S.l _ _ rfl hS.l]
theorem readS_wf (T : List Nat) : ∀ x ∈ (readS T).1.a, 0 ≤ x ∧ x < 18446744073709551616 := by
  intro x hx
  obtain ⟨l, rfl, h, hl⟩ := recR_all (m := 1) (f := fA) (bad := noBad) _ _ _ x hx
  obtain ⟨a, rfl⟩ := list1n h
  have := hl a (by simp)
  show 0 ≤ (a : Int) ∧ (a : Int) < 18446744073709551616
  omega
end Go.Proofs.Ytbmkbnalembbjaa

namespace Go.Proofs.Ytbmkbnalembbjaa
open Go.RowKit
end Go.Proofs.Ytbmkbnalembbjaa
