/-
  Texts joined: PlayLaw StPeek DoOps DoFn0.
-/
import Derived.Test.YtbmkbnalembbjaaGreatDoorR12
import Derived.Test.YtbmkbnalembbjaaGreatDoorR13
import Derived.Test.YtbmkbnalembbjaaGreatDoorR15
import Derived.Test.YtbmkbnalembbjaaGreatDoorR16
namespace Go.Proofs.YtbmkbnalembbjaaGreatDoor
open Go.RowKit
theorem atX_is {S : St} {k : Nat} {x : Int} (hx : S.r[k]? = some x) : atX S k = x := by
  unfold atX
  rw [List.getD_eq_getElem?_getD, Int.toNat_natCast, hx]
  rfl
theorem wf_small {v : Int} (h0 : 0 ≤ v) (h1 : v ≤ 1000) : (Lit.int .u64 v).wf = true := by
  simp [Lit.wf, IntKind.min, IntKind.max, IntKind.signed, IntKind.bits]
  omega
theorem StOk.rootsLive {S : St} (h : StOk S) {k : Nat} {y : Int} (hy : y = -1 ∨ y ∈ begsL (spotsL S.a)) : StOk ⟨S.a, S.r.set k y, S.p, S.l⟩ := by
  obtain ⟨h1, h2, h3, h4⟩ := rootE_ok h.roots
  have hyr : -1 ≤ y ∧ y < S.a.length := by
    rcases hy with rfl | hy
    · omega
    · have := begs_lt h.arena hy
      omega
  refine ⟨h.arena, rootE_of h1 h2 (by rw [List.length_set]; exact h3) (fun v hv => ?_), h.pins, h.hands, fun x hx => ?_⟩
  · rcases List.mem_or_eq_of_mem_set hv with hv | rfl
    · exact h4 v hv
    · exact hyr
  · rcases fromL_mem.1 hx with ⟨h5, h6⟩ | ⟨s, h5, h6, rfl⟩ | ⟨z, h5, rfl⟩
    · rcases List.mem_or_eq_of_mem_set h5 with h5 | rfl
      · exact h.live x (root_at h5 h6)
      · rcases hy with rfl | hy
        · omega
        · exact hy
    · exact h.live _ (open_at h5 h6)
    · exact h.live _ (pin_at h5)
theorem ref_ix {a : List Int} {s : Spot} {K : Nat} (hK : (K : Int) < s.r) : (refsOf a s)[K]? = a[s.loc.toNat + 1 + K]? := by
  unfold refsOf
  rw [List.getElem?_take, if_pos (by omega), List.getElem?_drop]
theorem ref_word {S : St} (hS : StOk S) {X K : Nat} {s : Spot} {i : Nat} (hO : ObjAt S X s i) (hk : (K : Int) < s.r) : ∃ v : Nat, S.a[X + 1 + K]? = some (v : Int) ∧ v ≤ 256 ∧ ((v : Int) - 1 = -1 ∨ (v : Int) - 1 ∈ begsL (spotsL S.a)) := by
  have hfit := hO.ok.fits
  have hb := hO.ok.b0
  have hm := List.mem_of_getElem? hO.at_
  have hloc := hO.loc
  have hlen : X + 1 + K < S.a.length := by simp only [Spot.long] at hfit; omega
  have hr := (checkE_ok.1 hS.arena).2
  unfold refsOk at hr
  have h1 := List.all_eq_true.1 hr s hm
  have hv : (refsOf S.a s)[K]? = some S.a[X + 1 + K] := by
    rw [ref_ix hk, show s.loc.toNat + 1 + K = X + 1 + K by omega, List.getElem?_eq_getElem hlen]
  have h2 := List.all_eq_true.1 h1 _ (List.mem_of_getElem? hv)
  by_cases h0 : S.a[X + 1 + K] = 0
  · exact ⟨0, by rw [List.getElem?_eq_getElem hlen, h0]; rfl, by omega, .inl (by omega)⟩
  · have h3 := place_inv h2 h0
    have h4 := begs_lt hS.arena h3
    have h5 := (parse_ok (checkE_ok.1 hS.arena).1).1
    obtain ⟨v, hv'⟩ := Int.eq_ofNat_of_zero_le (show 0 ≤ S.a[X + 1 + K] by omega)
    refine ⟨v, by rw [List.getElem?_eq_getElem hlen, hv'], by omega, .inr ?_⟩
    rw [← hv']
    exact h3
theorem refO_is {S : St} {k X K O v : Nat} (hE : refE S k K O = 0) (hx : S.r[k]? = some (X : Int)) (hv : S.a[X + 1 + K]? = some (v : Int)) : refO S k K O = ⟨⟨S.a, S.r.set O ((v : Int) - 1), S.p, S.l⟩, 0, 0⟩ := by
  unfold refO
  rw [if_neg (by rw [hE]; decide), atX_is hx, show ((X : Int) + 1 + K).toNat = X + 1 + K by omega, List.getD_eq_getElem?_getD, hv, Int.toNat_natCast]
  rfl
theorem setO_is {S : St} {k X K O : Nat} {y : Int} (hE : refE S k K O = 0) (hx : S.r[k]? = some (X : Int)) (hy : S.r[O]? = some y) : setO S k K O = ⟨⟨S.a.set (X + 1 + K) (y + 1), S.r, S.p, S.l⟩, 0, 0⟩ := by
  unfold setO
  rw [if_neg (by rw [hE]; decide), atX_is hx, atX_is hy, show ((X : Int) + 1 + K).toNat = X + 1 + K by omega]
theorem getO_is {S : St} {k X K v : Nat} {s : Spot} {i : Nat} (hE : bodyE S k K = 0) (hx : S.r[k]? = some (X : Int)) (hO : ObjAt S X s i) (hv : S.a[X + 1 + s.r.toNat + K]? = some (v : Int)) : getO S k K = ⟨S, v, 0⟩ := by
  have hr := hO.ok.r0
  unfold getO
  rw [if_neg (by rw [hE]; decide), atX_is hx, spS_at hx hO, show ((X : Int) + 1 + s.r + K).toNat = X + 1 + s.r.toNat + K by omega, List.getD_eq_getElem?_getD, hv]
  rfl
theorem putO_is {S : St} {k X K : Nat} {v : Int} {s : Spot} {i : Nat} (hE : bodyE S k K = 0) (hx : S.r[k]? = some (X : Int)) (hO : ObjAt S X s i) : putO S k K v = ⟨⟨S.a.set (X + 1 + s.r.toNat + K) v, S.r, S.p, S.l⟩, 0, 0⟩ := by
  have hr := hO.ok.r0
  unfold putO
  rw [if_neg (by rw [hE]; decide), atX_is hx, spS_at hx hO, show ((X : Int) + 1 + s.r + K).toNat = X + 1 + s.r.toNat + K by omega]
theorem pinO_ok {S : St} {k X j : Nat} (hE : objE S k = 0) (hx : S.r[k]? = some (X : Int)) (hP : PinOk S X j) : pinO S k = ⟨⟨S.a, S.r, moreP S.p X j (countP S.p X + 1), S.l⟩, X, 0⟩ := by
  unfold pinO
  rw [if_neg (by rw [hE]; decide), atX_is hx, hP.1.is, if_pos hP]
theorem pinO_no {S : St} {k X : Nat} (hE : objE S k = 0) (hx : S.r[k]? = some (X : Int)) (hP : ∀ j, ¬ PinOk S X j) : pinO S k = ⟨S, 0, addE S.p X⟩ := by
  unfold pinO
  rw [if_neg (by rw [hE]; decide), atX_is hx, if_neg (hP _)]
theorem unpinO_ok {S : St} {x : Int} {j : Nat} (hS : StOk S) (hP : UnpinOk S x j) : unpinO S x = ⟨⟨S.a, S.r, lessP S.p j x (countP S.p x - 1), S.l⟩, 0, 0⟩ := by
  unfold unpinO
  rw [if_neg (by rw [stE_ok.2 hS]; decide), hP.2.1.is, if_pos hP]
theorem unpinO_no {S : St} {x : Int} (hS : StOk S) (hP : ∀ j, ¬ UnpinOk S x j) : unpinO S x = ⟨S, 0, dropE S.p x⟩ := by
  unfold unpinO
  rw [if_neg (by rw [stE_ok.2 hS]; decide), if_neg (hP _)]
theorem openO_is {S : St} {k X j : Nat} {sl : Slot} (hE : objE S k = 0) (hx : S.r[k]? = some (X : Int)) (hE2 : openE S.l X = 0) (hj : freeIx S.l = j) (hs : S.l[j]? = some sl) : openO S k = ⟨⟨S.a, S.r, S.p, S.l.set j ⟨sl.gen + 1, true, (X : Int)⟩⟩, (j : Int) + (sl.gen + 1) * 65536, 0⟩ := by
  unfold openO
  rw [if_neg (by rw [hE]; decide), atX_is hx, if_neg (by rw [hE2]; decide), hj, Int.toNat_natCast, List.getD_eq_getElem?_getD, hs]
  rfl
theorem openO_no {S : St} {k X : Nat} (hE : objE S k = 0) (hx : S.r[k]? = some (X : Int)) (hE2 : openE S.l X ≠ 0) : openO S k = ⟨S, 0, openE S.l X⟩ := by
  unfold openO
  rw [if_neg (by rw [hE]; decide), atX_is hx, if_pos hE2]
structure StGood (S : St) : Prop where
  ok : StOk S
  wf : W64 S.a
theorem Out.good_if {p : Prop} [Decidable p] {a b : Out} (ha : p → a.er ≠ 0) (hb : ¬ p → b.er = 0 → StGood b.st) : (if p then a else b).er = 0 → StGood (if p then a else b).st := by
  intro h
  by_cases hp : p
  · rw [if_pos hp] at h
    exact absurd h (ha hp)
  · rw [if_neg hp] at h ⊢
    exact hb hp h
theorem Out.good_or {p : Prop} [Decidable p] {a b : Out} (ha : a.er = 0 → StGood a.st) (hb : b.er = 0 → StGood b.st) : (if p then a else b).er = 0 → StGood (if p then a else b).st := by
  split
  · exact ha
  · exact hb
theorem lessP_mem {l : List Rn} {j : Nat} {x v : Int} {z : Rn} (hz : z ∈ lessP l j x v) : z ∈ l ∨ z = ⟨x, v⟩ ∧ v ≠ 0 := by
  unfold lessP at hz
  by_cases h : v = 0
  · rw [if_pos h] at hz
    rcases List.mem_append.1 hz with hz | hz
    · exact .inl (List.mem_of_mem_take hz)
    · exact .inl (List.mem_of_mem_drop hz)
  · rw [if_neg h] at hz
    rcases List.mem_or_eq_of_mem_set hz with hz | rfl
    · exact .inl hz
    · exact .inr ⟨rfl, h⟩
section
variable {S : St} (hS : StGood S)
include hS
theorem makeO_good (slot r b t : Int) : (makeO S slot r b t).er = 0 → StGood (makeO S slot r b t).st := by
  unfold makeO
  refine Out.good_if (fun h => h) (fun h0 => ?_)
  obtain ⟨hOK, -, hE, k, rfl, hk⟩ := makeE_zero (by simpa using h0)
  rw [Int.toNat_natCast]
  by_cases h1 : fitsE (ggL S.a) (1 + r + b) = 0
  · rw [if_pos h1]
    intro _
    obtain ⟨j, g, hG⟩ := first_gap h1
    unfold putIn
    rw [hG.is]
    exact ⟨(made_of hOK hE hG hk).ok, taken_wf hOK.arena hS.wf hG hE⟩
  · rw [if_neg h1]
    by_cases h2 : fitsE (ggL (sweep S).1.a) (1 + r + b) = 0
    · rw [if_pos h2]
      intro _
      obtain ⟨j, g, hG⟩ := first_gap h2
      by_cases hx : ∃ p : St × Int, ∃ L Y now : List Int, Coll S p.1 p.2 L Y now
      · obtain ⟨⟨S', fr⟩, L, Y, now, hC⟩ := hx
        rw [hC.sweep] at hG ⊢
        simp only at hC hG
        unfold putIn
        simp only
        rw [hG.is]
        exact ⟨(made_of (hC.ok hOK) hE hG (by rw [hC.r, List.length_map]; exact hk)).ok, taken_wf (hC.ok hOK).arena (hC.wf hS.wf) hG hE⟩
      · have e : sweep S = (S, 0) := dif_neg hx
        rw [e] at hG ⊢
        unfold putIn
        simp only at hG ⊢
        rw [hG.is]
        exact ⟨(made_of hOK hE hG hk).ok, taken_wf hOK.arena hS.wf hG hE⟩
    · rw [if_neg h2]
      intro h
      exact absurd h (show ¬ (7 : Int) = 0 by decide)
theorem sweep_good : StGood (sweep S).1 := by
  by_cases hx : ∃ p : St × Int, ∃ L Y now : List Int, Coll S p.1 p.2 L Y now
  · obtain ⟨⟨S', fr⟩, L, Y, now, hC⟩ := hx
    rw [hC.sweep]
    exact ⟨hC.ok hS.ok, hC.wf hS.wf⟩
  · have e : sweep S = (S, 0) := dif_neg hx
    rw [e]
    exact hS
theorem collO_good : (collO S).er = 0 → StGood (collO S).st := by
  unfold collO
  exact Out.good_if (fun h => h) (fun _ _ => sweep_good hS)
theorem refO_good (x y z : Int) : (refO S x y z).er = 0 → StGood (refO S x y z).st := by
  intro h
  have hE : refE S x y z = 0 := by
    refine Classical.byContradiction fun h0 => ?_
    unfold refO at h
    rw [if_pos h0] at h
    exact h0 h
  obtain ⟨hOK, k, X, K, O, s, i, rfl, rfl, rfl, hx, hO, hK, hz⟩ := refE_zero hE
  obtain ⟨v, hv, h1, h2⟩ := ref_word hOK hO hK
  rw [refO_is hE hx hv]
  exact ⟨hOK.rootsLive h2, hS.wf⟩
theorem setO_good (x y z : Int) : (setO S x y z).er = 0 → StGood (setO S x y z).st := by
  intro h
  have hE : refE S x y z = 0 := by
    refine Classical.byContradiction fun h0 => ?_
    unfold setO at h
    rw [if_pos h0] at h
    exact h0 h
  obtain ⟨hOK, k, X, K, O, s, i, rfl, rfl, rfl, hx, hO, hK, hz⟩ := refE_zero hE
  have hy : S.r[O]? = some S.r[O] := List.getElem?_eq_getElem hz
  obtain ⟨q1, q2, q3⟩ := root_val hOK (List.mem_of_getElem? hy)
  rw [setO_is hE hx hy]
  exact ⟨(set_law hOK hO hK q1).1, wf_set hS.wf (wf_small (by omega) (by omega))⟩
theorem getO_good (x y : Int) : (getO S x y).er = 0 → StGood (getO S x y).st := by
  unfold getO
  exact Out.good_if (fun h => h) (fun _ _ => hS)
theorem putO_good (x y v : Int) (hv : (Lit.int .u64 v).wf = true) : (putO S x y v).er = 0 → StGood (putO S x y v).st := by
  intro h
  have hE : bodyE S x y = 0 := by
    refine Classical.byContradiction fun h0 => ?_
    unfold putO at h
    rw [if_pos h0] at h
    exact h0 h
  obtain ⟨hOK, k, X, K, s, i, rfl, rfl, hx, hO, hK⟩ := bodyE_zero hE
  rw [putO_is hE hx hO]
  exact ⟨(put_law hOK hO hK v).1, wf_set hS.wf hv⟩
theorem pinO_good (x : Int) : (pinO S x).er = 0 → StGood (pinO S x).st := by
  intro h
  have hE : objE S x = 0 := by
    refine Classical.byContradiction fun h0 => ?_
    unfold pinO at h
    rw [if_pos h0] at h
    exact h0 h
  obtain ⟨hOK, k, X, s, i, rfl, hx, hO, -⟩ := root_obj hE
  by_cases hP : ∃ j, PinOk S X j
  · obtain ⟨j, hP⟩ := hP
    rw [pinO_ok hE hx hP]
    exact ⟨pin_law hOK (root_at (List.mem_of_getElem? hx) (by omega)) hP, hS.wf⟩
  · rw [pinO_no hE hx (fun j hj => hP ⟨j, hj⟩)] at h ⊢
    exact ⟨hOK, hS.wf⟩
theorem less_ok {x : Int} {j : Nat} (h : UnpinOk S x j) : PinsOk (lessP S.p j x (countP S.p x - 1)) ∧ x ∈ S.begs := by
  obtain ⟨h1, h2, h3⟩ := h
  have hp := hS.ok.pins
  obtain ⟨y, hy, rfl⟩ := hasAt_some h3
  have hym := List.mem_of_getElem? hy
  have hc := countP_some hp hym
  have hb := bad_no.1 (show pinBad ⟨y.loc, y.len⟩ = false from hp.ok y hym)
  rw [hc]
  refine ⟨⟨?_, fun z hz => ?_, ?_⟩, pin_at hym⟩
  · have := hp.len
    unfold lessP
    split
    · rw [List.length_append, List.length_take, List.length_drop]; omega
    · rw [List.length_set]; omega
  · rcases lessP_mem hz with hz | ⟨rfl, h0⟩
    · exact hp.ok z hz
    · exact bad_no.2 ⟨hb.1, by omega, by omega⟩
  · unfold lessP
    split
    · refine hp.rise.sublist ?_
      conv => rhs; rw [← List.take_append_drop j S.p]
      refine List.Sublist.append (List.Sublist.refl _) ?_
      rw [← List.drop_drop]
      exact List.drop_sublist _ _
    · exact set_rise hp.rise hy
theorem unpinO_good (x : Int) : (unpinO S x).er = 0 → StGood (unpinO S x).st := by
  intro h
  by_cases hP : ∃ j, UnpinOk S x j
  · obtain ⟨j, hP⟩ := hP
    rw [unpinO_ok hS.ok hP]
    obtain ⟨h1, h2⟩ := less_ok hS hP
    refine ⟨hS.ok.pinsSet h1 (fun y hy => ?_), hS.wf⟩
    rcases lessP_mem hy with hy | ⟨rfl, -⟩
    · exact pin_at hy
    · exact h2
  · rw [unpinO_no hS.ok (fun j hj => hP ⟨j, hj⟩)]
    exact hS
theorem peekO_good (x k : Int) : (peekO S x k).er = 0 → StGood (peekO S x k).st := by
  unfold peekO
  exact Out.good_if (fun h => h) (fun _ => Out.good_if (fun _ => (show ¬ (8 : Int) = 0 by decide)) (fun _ => Out.good_if (fun _ => (show ¬ (4 : Int) = 0 by decide)) (fun _ _ => hS)))
theorem openO_good (x : Int) : (openO S x).er = 0 → StGood (openO S x).st := by
  intro h
  have hE : objE S x = 0 := by
    refine Classical.byContradiction fun h0 => ?_
    unfold openO at h
    rw [if_pos h0] at h
    exact h0 h
  obtain ⟨hOK, k, X, s, i, rfl, hx, hO, -⟩ := root_obj hE
  have hX : (X : Int) ∈ S.begs := root_at (List.mem_of_getElem? hx) (by omega)
  rcases open_cases hOK hX with ⟨h1, j, sl, hop, g0, g1, g2, g3⟩ | h1
  · rw [openO_is hE hx h1 hop.ix hop.at_]
    have h2 := begs_lt hOK.arena (hOK.live X hX)
    have h3 := (parse_ok (checkE_ok.1 hOK.arena).1).1
    exact ⟨hOK.slots (slot_open g0 g1 (by omega)) (fun _ => hX), hS.wf⟩
  · rw [openO_no hE hx (by rw [h1]; decide)] at h
    rw [h1] at h
    exact absurd h (show ¬ (7 : Int) = 0 by decide)
theorem useO_good (v slot : Int) : (useO S v slot).er = 0 → StGood (useO S v slot).st := by
  unfold useO
  refine Out.good_if (fun h => h) (fun _ => ?_)
  split
  · rename_i sl hsl
    intro _
    obtain ⟨-, h2, h3, -⟩ := findS_some.1 hsl
    exact ⟨hS.ok.rootsSet (.inr (open_at (List.mem_of_getElem? h2) h3)), hS.wf⟩
  · intro h
    exact absurd h (show ¬ (9 : Int) = 0 by decide)
theorem shutO_good (v : Int) : (shutO S v).er = 0 → StGood (shutO S v).st := by
  unfold shutO
  refine Out.good_if (fun h => h) (fun _ => ?_)
  split
  · rename_i sl hsl
    intro _
    obtain ⟨-, h2, h3, -⟩ := findS_some.1 hsl
    have h4 := slotE_gen (slotE_of hS.ok.hands h2)
    exact ⟨hS.ok.slots (slot_shut h4.1 h4.2) (fun h => by cases h), hS.wf⟩
  · intro h
    exact absurd h (show ¬ (9 : Int) = 0 by decide)
theorem dropO_good (slot : Int) : (dropO S slot).er = 0 → StGood (dropO S slot).st := by
  unfold dropO
  exact Out.good_if (fun h => h) (fun _ _ => ⟨hS.ok.rootsSet (.inl rfl), hS.wf⟩)
theorem doO_good (o : OpV) (hv : (Lit.int .u64 o.v).wf = true) : (doO S o).er = 0 → StGood (doO S o).st := by
  unfold doO
  refine Out.good_if (fun _ => (show ¬ (1 : Int) = 0 by decide)) (fun _ => ?_)
  refine Out.good_or (makeO_good hS _ _ _ _) (Out.good_or (collO_good hS) (Out.good_or (refO_good hS _ _ _) (Out.good_or (setO_good hS _ _ _) (Out.good_or (getO_good hS _ _) (Out.good_or (putO_good hS _ _ _ hv) (Out.good_or (pinO_good hS _) (Out.good_or (unpinO_good hS _) (Out.good_or (peekO_good hS _ _) (Out.good_or (openO_good hS _) (Out.good_or (useO_good hS _ _) (Out.good_or (shutO_good hS _) (dropO_good hS _))))))))))))
theorem nextS_good (o : OpV) (hv : (Lit.int .u64 o.v).wf = true) : StGood (nextS S o) := by
  unfold nextS
  split
  · rename_i h; exact doO_good hS o hv h
  · exact hS
end
theorem playS_good : ∀ (l : List OpV) {S : St}, StGood S → (∀ o ∈ l, (Lit.int .u64 o.v).wf = true) → StGood (playS S l)
  | [], _, h, _ => h
  | o :: l, _, h, hl => playS_good l (nextS_good h o (hl o List.mem_cons_self)) (fun x hx => hl x (List.mem_cons_of_mem _ hx))
end Go.Proofs.YtbmkbnalembbjaaGreatDoor

namespace Go.Proofs.YtbmkbnalembbjaaGreatDoor
open Go.RowKit
set_option maxRecDepth 100000 in
set_option maxHeartbeats 4000000 in
theorem peek_bad (A : Option Addr) (n c : Nat) (RA : Option Addr) (rn rc : Nat) (PA : Option Addr) (pn pc : Nat) (HA : Option Addr) (hn hc : Nat) (S : St) (x k : Int) (w : World) (hR : StR w w.heap.size A n RA rn PA pn HA hn S) (hK : StK n c rn pn hn S) (hE : stE S ≠ 0) :
    Calls Tryz.prog 48 #[.agg #[.slice A n c, .slice RA rn rc, .slice PA pn pc, .slice HA hn hc], .int .i64 x, .int .i64 k] w fun e w' => Below w.heap.size w w' ∧ e = .returned (.tuple #[.int .u64 0, .int .i64 (stE S)]) := by
  have HCk := Lib.hid (fun w hR => stcheck_any A n c RA rn rc PA pn pc HA hn hc S w hR hK)
  have g1 : (stE S != 0) = true := by simpa using hE
  generalize stE S = F at *
  have hb1 := below_new w (.cells #[.slice A n c, .slice RA rn rc, .slice PA pn pc, .slice HA hn hc] 28)
  have DS := Blk.new w 28 #[.slice A n c, .slice RA rn rc, .slice PA pn pc, .slice HA hn hc]
  obtain ⟨s0, s1, s2, s3⟩ := DS.four
  go_enter Tryz.func48, Tryz.ntmps48
  go_wp2_with fail
  refine (HCk.out _ ((hR.below hb1).more hb1.size)).mono ?_
  rintro e w2 ⟨rfl, hb2⟩
  have hb02 := below_step hb1 hb2
  clear s0 s1 s2 s3
  go_wp2_with fail
  go_ret2
  exact ⟨hb02, rfl⟩
set_option maxRecDepth 100000 in
set_option maxHeartbeats 4000000 in
theorem peek_free (A : Option Addr) (n c : Nat) (RA : Option Addr) (rn rc : Nat) (PA : Option Addr) (pn pc : Nat) (HA : Option Addr) (hn hc : Nat) (S : St) (x k : Int) (w : World) (hR : StR w w.heap.size A n RA rn PA pn HA hn S) (hK : StK n c rn pn hn S) (hOK : StOk S) (hx : x ∉ pinsL S.p) :
    Calls Tryz.prog 48 #[.agg #[.slice A n c, .slice RA rn rc, .slice PA pn pc, .slice HA hn hc], .int .i64 x, .int .i64 k] w fun e w' => Below w.heap.size w w' ∧ e = .returned (.tuple #[.int .u64 0, .int .i64 8]) := by
  have HCk := Lib.hid (fun w hR => stcheck_any A n c RA rn rc PA pn pc HA hn hc S w hR hK)
  rw [stE_ok.2 hOK] at HCk
  obtain ⟨z1, z2, z3, z4⟩ := hR.lens
  have hp16 := hOK.pins.len
  have HPn := Lib.hid (fun w hr => pinned_any A n c RA rn rc PA pn pc HA hn hc S.p w hr (by omega))
  obtain ⟨m, HM⟩ : ∃ m, Hid (m = (pinsL S.p).length) := ⟨_, rfl⟩
  have hm : m ≤ 16 := by rw [HM.out]; unfold pinsL; rw [List.length_map]; exact hp16
  rw [← HM.out] at HPn
  clear hOK z1 z2 z3 z4 hp16
  have hb1 := below_new w (.cells #[.slice A n c, .slice RA rn rc, .slice PA pn pc, .slice HA hn hc] 28)
  have DS := Blk.new w 28 #[.slice A n c, .slice RA rn rc, .slice PA pn pc, .slice HA hn hc]
  obtain ⟨s0, s1, s2, s3⟩ := DS.four
  go_enter Tryz.func48, Tryz.ntmps48
  go_wp2_with fail
  refine (HCk.out _ ((hR.below hb1).more hb1.size)).mono ?_
  rintro e w2 ⟨rfl, hb2⟩
  have hb02 := below_step hb1 hb2
  have DS2 := DS.below hb2 DS.lt
  clear s0 s1 s2 s3 hb1 hb2 DS
  obtain ⟨s0, s1, s2, s3⟩ := DS2.four
  go_wp2_with fail
  refine (HPn.out _ ((hR.p.below hb02).more hb02.size)).mono ?_
  rintro e w3 ⟨A5, c5, rfl, hN, hb3⟩
  have hb03 := below_step hb02 hb3
  have DS3 := DS2.below hb3 DS2.lt
  have hrN := Reads.of_own hN
  have HCt := Lib.hid (fun b hb => contains_int A5 m c5 w3.heap.size (pinsL S.p) x b w3 hrN (by omega) hb)
  clear s0 s1 s2 s3 hN hrN
  obtain ⟨s0, s1, s2, s3⟩ := DS3.four
  go_wp2_with fail
  refine (HCt.out false (decide_eq_false hx)).mono ?_
  rintro e w4 ⟨rfl, rfl⟩
  clear hx
  go_wp2_with fail
  go_ret2
  exact ⟨hb03, rfl⟩
set_option maxRecDepth 100000 in
set_option maxHeartbeats 4000000 in
theorem peek_range (A : Option Addr) (n c : Nat) (RA : Option Addr) (rn rc : Nat) (PA : Option Addr) (pn pc : Nat) (HA : Option Addr) (hn hc : Nat) (S : St) (x k : Int) (s : Spot) (i : Nat)  (w : World) (hR : StR w w.heap.size A n RA rn PA pn HA hn S) (hK : StK n c rn pn hn S) (hOK : StOk S) (hx : x ∈ pinsL S.p) (hO : ObjAt S x s i) (hk : k < 0 ∨ s.b ≤ k) :
    Calls Tryz.prog 48 #[.agg #[.slice A n c, .slice RA rn rc, .slice PA pn pc, .slice HA hn hc], .int .i64 x, .int .i64 k] w fun e w' => Below w.heap.size w w' ∧ e = .returned (.tuple #[.int .u64 0, .int .i64 4]) := by
  have HCk := Lib.hid (fun w hR => stcheck_any A n c RA rn rc PA pn pc HA hn hc S w hR hK)
  rw [stE_ok.2 hOK] at HCk
  obtain ⟨z1, z2, z3, z4⟩ := hR.lens
  have hp16 := hOK.pins.len
  have HPn := Lib.hid (fun w hr => pinned_any A n c RA rn rc PA pn pc HA hn hc S.p w hr (by omega))
  obtain ⟨m, HM⟩ : ∃ m, Hid (m = (pinsL S.p).length) := ⟨_, rfl⟩
  have hm : m ≤ 16 := by rw [HM.out]; unfold pinsL; rw [List.length_map]; exact hp16
  rw [← HM.out] at HPn
  have HAt := Lib.hid (fun w hr => at_ok A n c S.a x i s w hr hK.cap hK.wf hOK.arena hO.ix hO.at_)
  have hr0 := hO.ok.r0
  have hbb0 := hO.ok.b0
  obtain ⟨q2, HQ2⟩ : ∃ q : Nat, Hid (q = s.b.toNat) := ⟨_, rfl⟩
  rw [← HQ2.out] at HAt
  generalize s.t = t at *
  generalize s.f = f at *
  generalize (refIx (spotsL S.a) S.a s).map (Value.int .i64) = l1 at *
  generalize bodyOf S.a s = l2 at *
  generalize s.r.toNat = q1 at *
  clear hOK z1 z2 z3 z4 hp16 hO
  have hb1 := below_new w (.cells #[.slice A n c, .slice RA rn rc, .slice PA pn pc, .slice HA hn hc] 28)
  have DS := Blk.new w 28 #[.slice A n c, .slice RA rn rc, .slice PA pn pc, .slice HA hn hc]
  obtain ⟨s0, s1, s2, s3⟩ := DS.four
  go_enter Tryz.func48, Tryz.ntmps48
  go_wp2_with fail
  refine (HCk.out _ ((hR.below hb1).more hb1.size)).mono ?_
  rintro e w2 ⟨rfl, hb2⟩
  have hb02 := below_step hb1 hb2
  have DS2 := DS.below hb2 DS.lt
  clear s0 s1 s2 s3 hb1 hb2 DS
  obtain ⟨s0, s1, s2, s3⟩ := DS2.four
  go_wp2_with fail
  refine (HPn.out _ ((hR.p.below hb02).more hb02.size)).mono ?_
  rintro e w3 ⟨A5, c5, rfl, hN, hb3⟩
  have hb03 := below_step hb02 hb3
  have DS3 := DS2.below hb3 DS2.lt
  have hrN := Reads.of_own hN
  have HCt := Lib.hid (fun b hb => contains_int A5 m c5 w3.heap.size (pinsL S.p) x b w3 hrN (by omega) hb)
  clear s0 s1 s2 s3 hN hrN
  obtain ⟨s0, s1, s2, s3⟩ := DS3.four
  go_wp2_with fail
  refine (HCt.out true (decide_eq_true hx)).mono ?_
  rintro e w4 ⟨rfl, rfl⟩
  clear hx HCt
  go_wp2_with fail
  refine (HAt.out _ ((hR.a.below hb03).more hb03.size)).mono ?_
  rintro e w5 ⟨hb5, B1, d1, B2, d2, rfl, o1, o2⟩
  have hb05 := (below_step hb03 hb5).alloc (below_step hb03 hb5).size (.cells #[.int .i64 t, .slice B1 q1 d1, .slice B2 q2 d2, .bool f] 113)
  have DG := Blk.new w5 113 #[.int .i64 t, .slice B1 q1 d1, .slice B2 q2 d2, .bool f]
  clear s0 s1 s2 s3
  obtain ⟨s0, s1, s2, s3⟩ := DG.four
  by_cases h1 : k < 0
  · have g1 : decide (k < 0) = true := decide_eq_true h1
    clear h1 hk
    go_wp2_with fail
    go_ret2
    exact ⟨hb05, rfl⟩
  · have g1 : decide (k < 0) = false := decide_eq_false h1
    obtain ⟨K, rfl⟩ := Int.eq_ofNat_of_zero_le (show 0 ≤ k by omega)
    have g2 : decide (q2 ≤ K) = true := decide_eq_true (by have := HQ2.out; omega)
    clear h1 hk
    go_wp2_with fail
    go_ret2
    exact ⟨hb05, rfl⟩
set_option maxRecDepth 100000 in
set_option maxHeartbeats 4000000 in
theorem peek_ok (A : Option Addr) (n c : Nat) (RA : Option Addr) (rn rc : Nat) (PA : Option Addr) (pn pc : Nat) (HA : Option Addr) (hn hc : Nat) (S : St) (x k : Int) (s : Spot) (i : Nat) (v : Nat) (w : World) (hR : StR w w.heap.size A n RA rn PA pn HA hn S) (hK : StK n c rn pn hn S) (hOK : StOk S) (hx : x ∈ pinsL S.p) (hO : ObjAt S x s i) (hk : 0 ≤ k ∧ k < s.b) (hv : (bodyOf S.a s)[k.toNat]? = some (v : Int)) :
    Calls Tryz.prog 48 #[.agg #[.slice A n c, .slice RA rn rc, .slice PA pn pc, .slice HA hn hc], .int .i64 x, .int .i64 k] w fun e w' => Below w.heap.size w w' ∧ e = .returned (.tuple #[.int .u64 v, .int .i64 0]) := by
  have HCk := Lib.hid (fun w hR => stcheck_any A n c RA rn rc PA pn pc HA hn hc S w hR hK)
  rw [stE_ok.2 hOK] at HCk
  obtain ⟨z1, z2, z3, z4⟩ := hR.lens
  have hp16 := hOK.pins.len
  have HPn := Lib.hid (fun w hr => pinned_any A n c RA rn rc PA pn pc HA hn hc S.p w hr (by omega))
  obtain ⟨m, HM⟩ : ∃ m, Hid (m = (pinsL S.p).length) := ⟨_, rfl⟩
  have hm : m ≤ 16 := by rw [HM.out]; unfold pinsL; rw [List.length_map]; exact hp16
  rw [← HM.out] at HPn
  have HAt := Lib.hid (fun w hr => at_ok A n c S.a x i s w hr hK.cap hK.wf hOK.arena hO.ix hO.at_)
  have hr0 := hO.ok.r0
  have hbb0 := hO.ok.b0
  obtain ⟨q2, HQ2⟩ : ∃ q : Nat, Hid (q = s.b.toNat) := ⟨_, rfl⟩
  rw [← HQ2.out] at HAt
  obtain ⟨K, rfl⟩ := Int.eq_ofNat_of_zero_le hk.1
  have g1 : decide ((K : Int) < 0) = false := decide_eq_false (by omega)
  have g2 : decide (q2 ≤ K) = false := decide_eq_false (by have := HQ2.out; omega)
  have hkq : K < q2 := by have := HQ2.out; omega
  have HV := Lib.hid hv
  rw [Int.toNat_natCast] at HV
  clear hv hk
  generalize s.t = t at *
  generalize s.f = f at *
  generalize (refIx (spotsL S.a) S.a s).map (Value.int .i64) = l1 at *
  generalize bodyOf S.a s = l2 at *
  generalize s.r.toNat = q1 at *
  clear hOK z1 z2 z3 z4 hp16 hO
  have hb1 := below_new w (.cells #[.slice A n c, .slice RA rn rc, .slice PA pn pc, .slice HA hn hc] 28)
  have DS := Blk.new w 28 #[.slice A n c, .slice RA rn rc, .slice PA pn pc, .slice HA hn hc]
  obtain ⟨s0, s1, s2, s3⟩ := DS.four
  go_enter Tryz.func48, Tryz.ntmps48
  go_wp2_with fail
  refine (HCk.out _ ((hR.below hb1).more hb1.size)).mono ?_
  rintro e w2 ⟨rfl, hb2⟩
  have hb02 := below_step hb1 hb2
  have DS2 := DS.below hb2 DS.lt
  clear s0 s1 s2 s3 hb1 hb2 DS
  obtain ⟨s0, s1, s2, s3⟩ := DS2.four
  go_wp2_with fail
  refine (HPn.out _ ((hR.p.below hb02).more hb02.size)).mono ?_
  rintro e w3 ⟨A5, c5, rfl, hN, hb3⟩
  have hb03 := below_step hb02 hb3
  have DS3 := DS2.below hb3 DS2.lt
  have hrN := Reads.of_own hN
  have HCt := Lib.hid (fun b hb => contains_int A5 m c5 w3.heap.size (pinsL S.p) x b w3 hrN (by omega) hb)
  clear s0 s1 s2 s3 hN hrN
  obtain ⟨s0, s1, s2, s3⟩ := DS3.four
  go_wp2_with fail
  refine (HCt.out true (decide_eq_true hx)).mono ?_
  rintro e w4 ⟨rfl, rfl⟩
  clear hx HCt
  go_wp2_with fail
  refine (HAt.out _ ((hR.a.below hb03).more hb03.size)).mono ?_
  rintro e w5 ⟨hb5, B1, d1, B2, d2, rfl, o1, o2⟩
  have hb05 := (below_step hb03 hb5).alloc (below_step hb03 hb5).size (.cells #[.int .i64 t, .slice B1 q1 d1, .slice B2 q2 d2, .bool f] 113)
  have DG := Blk.new w5 113 #[.int .i64 t, .slice B1 q1 d1, .slice B2 q2 d2, .bool f]
  clear s0 s1 s2 s3
  obtain ⟨s0, s1, s2, s3⟩ := DG.four
  have hr2 := (Reads.of_own o2).alloc (Nat.le_refl _) (.cells #[.int .i64 t, .slice B1 q1 d1, .slice B2 q2 d2, .bool f] 113)
  obtain ⟨ad, u, rfl, had, hu, cu⟩ := hr2.num hkq
  obtain rfl : u = v := Option.some.inj (hu.symm.trans HV.out)
  clear hu o1 o2 hr2
  go_wp2_with fail
  go_ret2
  exact ⟨hb05, rfl⟩
end Go.Proofs.YtbmkbnalembbjaaGreatDoor

namespace Go.Proofs.YtbmkbnalembbjaaGreatDoor
open Go.RowKit
theorem Out.bad {p : Prop} [Decidable p] {S : St} {E : Int} {b : Out} (hp : p) : (if p then (⟨S, 0, E⟩ : Out) else b) = ⟨S, 0, E⟩ := if_pos hp
set_option maxRecDepth 100000 in
set_option maxHeartbeats 1000000 in
theorem make_out (A : Option Addr) (n c : Nat) (RA : Option Addr) (rn rc : Nat) (PA : Option Addr) (pn pc : Nat) (HA : Option Addr) (hn hc : Nat) (S : St) (slot r b t : Int) (w : World) (hR : StR w w.heap.size A n RA rn PA pn HA hn S) (hK : StK n c rn pn hn S) :
    Calls Tryz.prog 19 #[.agg #[.slice A n c, .slice RA rn rc, .slice PA pn pc, .slice HA hn hc], .int .i64 slot, .agg #[.int .i64 r, .int .i64 b, .int .i64 t, .bool false]] w fun e w' => Below w.heap.size w w' ∧
      (((makeO S slot r b t).er = 0 ∧ ∃ (B1 : Option Addr) (n1 d1 : Nat) (B2 : Option Addr) (n2 d2 : Nat) (B3 : Option Addr) (n3 d3 : Nat) (B4 : Option Addr) (n4 d4 : Nat), e = .returned (.tuple #[.agg #[.slice B1 n1 d1, .slice B2 n2 d2, .slice B3 n3 d3, .slice B4 n4 d4], .bool (decide ((makeO S slot r b t).told = 1)), .int .i64 0]) ∧ StO w' w.heap.size B1 n1 d1 B2 n2 d2 B3 n3 d3 B4 n4 d4 (makeO S slot r b t).st) ∨
       ((makeO S slot r b t).er ≠ 0 ∧ e = .returned (.tuple #[.agg #[.slice none 0 0, .slice none 0 0, .slice none 0 0, .slice none 0 0], .bool false, .int .i64 (makeO S slot r b t).er]))) := by
  by_cases hE : makeE S slot r b t false = 0
  · obtain ⟨hOK, -, hh, k, rfl, hk⟩ := makeE_zero hE
    refine (makeFn_ok A n c RA rn rc PA pn pc HA hn hc S k r b t w hR hK hOK hk hh).mono ?_
    have hX : makeO S k r b t = if fitsE (ggL S.a) (1 + r + b) = 0 then ⟨putIn S k r b t, 0, 0⟩ else if fitsE (ggL (sweep S).1.a) (1 + r + b) = 0 then ⟨putIn (sweep S).1 k r b t, 1, 0⟩ else ⟨S, 0, 7⟩ := by
      unfold makeO
      rw [if_neg (by rw [hE]; decide), Int.toNat_natCast]
    rintro e w' ⟨hb, ⟨j, g, hG, M1, y1, M2, y2, M3, y3, M4, y4, rfl, hO⟩ | ⟨hF, S', fr, L, Y, now, hC, ⟨j, g, hG, M1, y1, M2, y2, M3, y3, M4, y4, rfl, hO⟩ | ⟨hF2, rfl⟩⟩⟩
    · rw [hX, if_pos hG.fits]
      refine ⟨hb, .inl ⟨rfl, M1, n, y1, M2, rn, y2, M3, pn, y3, M4, hn, y4, rfl, ?_⟩⟩
      show StO _ _ _ _ _ _ _ _ _ _ _ _ _ _ (putIn S k r b t)
      unfold putIn
      rw [hG.is]
      exact hO
    · rw [hX, if_neg hF, hC.sweep, if_pos hG.fits]
      refine ⟨hb, .inl ⟨rfl, M1, n, y1, M2, rn, y2, M3, pn, y3, M4, hn, y4, rfl, ?_⟩⟩
      show StO _ _ _ _ _ _ _ _ _ _ _ _ _ _ (putIn S' k r b t)
      unfold putIn
      rw [hG.is]
      exact hO
    · rw [hX, if_neg hF, hC.sweep, if_neg hF2]
      exact ⟨hb, .inr ⟨(show ¬ (7 : Int) = 0 by decide), rfl⟩⟩
  · refine (makeFn_bad A n c RA rn rc PA pn pc HA hn hc S slot r b t false w hR hK hE).mono ?_
    rintro e w' ⟨hb, rfl⟩
    have hX : makeO S slot r b t = ⟨S, 0, makeE S slot r b t false⟩ := if_pos hE
    rw [hX]
    exact ⟨hb, .inr ⟨hE, rfl⟩⟩
set_option maxRecDepth 100000 in
set_option maxHeartbeats 1000000 in
theorem coll_out (A : Option Addr) (n c : Nat) (RA : Option Addr) (rn rc : Nat) (PA : Option Addr) (pn pc : Nat) (HA : Option Addr) (hn hc : Nat) (S : St)  (w : World) (hR : StR w w.heap.size A n RA rn PA pn HA hn S) (hK : StK n c rn pn hn S) :
    Calls Tryz.prog 20 #[.agg #[.slice A n c, .slice RA rn rc, .slice PA pn pc, .slice HA hn hc]] w fun e w' => Below w.heap.size w w' ∧
      (((collO S).er = 0 ∧ ∃ (B1 : Option Addr) (n1 d1 : Nat) (B2 : Option Addr) (n2 d2 : Nat) (B3 : Option Addr) (n3 d3 : Nat) (B4 : Option Addr) (n4 d4 : Nat), e = .returned (.tuple #[.agg #[.slice B1 n1 d1, .slice B2 n2 d2, .slice B3 n3 d3, .slice B4 n4 d4], .int .i64 (collO S).told, .int .i64 0]) ∧ StO w' w.heap.size B1 n1 d1 B2 n2 d2 B3 n3 d3 B4 n4 d4 (collO S).st) ∨
       ((collO S).er ≠ 0 ∧ e = .returned (.tuple #[.agg #[.slice none 0 0, .slice none 0 0, .slice none 0 0, .slice none 0 0], .int .i64 0, .int .i64 (collO S).er]))) := by
  refine (collectFn_any A n c RA rn rc PA pn pc HA hn hc S w hR hK).mono ?_
  rintro e w' ⟨hb, ⟨hOK, S', fr, L, Y, now, A1, c1, A2, c2, A3, c3, A4, c4, hC, rfl, hO⟩ | ⟨h0, rfl⟩⟩
  · have hX : collO S = ⟨S', fr, 0⟩ := by
      unfold collO
      rw [if_neg (by rw [stE_ok.2 hOK]; decide), hC.sweep]
    rw [hX]
    exact ⟨hb, .inl ⟨rfl, A1, n, c1, A2, rn, c2, A3, pn, c3, A4, hn, c4, rfl, hO⟩⟩
  · have hX : collO S = ⟨S, 0, stE S⟩ := if_pos h0
    rw [hX]
    exact ⟨hb, .inr ⟨h0, rfl⟩⟩
set_option maxRecDepth 100000 in
set_option maxHeartbeats 1000000 in
theorem ref_out (A : Option Addr) (n c : Nat) (RA : Option Addr) (rn rc : Nat) (PA : Option Addr) (pn pc : Nat) (HA : Option Addr) (hn hc : Nat) (S : St) (x y z : Int) (w : World) (hR : StR w w.heap.size A n RA rn PA pn HA hn S) (hK : StK n c rn pn hn S) :
    Calls Tryz.prog 41 #[.agg #[.slice A n c, .slice RA rn rc, .slice PA pn pc, .slice HA hn hc], .int .i64 x, .int .i64 y, .int .i64 z] w fun e w' => Below w.heap.size w w' ∧
      (((refO S x y z).er = 0 ∧ ∃ (B1 : Option Addr) (n1 d1 : Nat) (B2 : Option Addr) (n2 d2 : Nat) (B3 : Option Addr) (n3 d3 : Nat) (B4 : Option Addr) (n4 d4 : Nat), e = .returned (.tuple #[.agg #[.slice B1 n1 d1, .slice B2 n2 d2, .slice B3 n3 d3, .slice B4 n4 d4], .int .i64 0]) ∧ StO w' w.heap.size B1 n1 d1 B2 n2 d2 B3 n3 d3 B4 n4 d4 (refO S x y z).st) ∨
       ((refO S x y z).er ≠ 0 ∧ e = .returned (.tuple #[.agg #[.slice none 0 0, .slice none 0 0, .slice none 0 0, .slice none 0 0], .int .i64 (refO S x y z).er]))) := by
  by_cases hE : refE S x y z = 0
  · obtain ⟨hOK, k, X, K, O, s, i, rfl, rfl, rfl, hx, hO, hk, ho⟩ := refE_zero hE
    obtain ⟨v, hv, h1, -⟩ := ref_word hOK hO hk
    refine (refFn_ok A n c RA rn rc PA pn pc HA hn hc S k X K O v s i w hR hK hOK hx hO hk ho hv (by omega)).mono ?_
    rintro e w' ⟨hb, A1, c1, A2, c2, A3, c3, A4, c4, rfl, hO'⟩
    rw [refO_is hE hx hv]
    exact ⟨hb, .inl ⟨rfl, A1, n, c1, A2, rn, c2, A3, pn, c3, A4, hn, c4, rfl, hO'⟩⟩
  · refine (refFn_bad A n c RA rn rc PA pn pc HA hn hc S x y z w hR hK hE).mono ?_
    rintro e w' ⟨hb, rfl⟩
    have hX : refO S x y z = ⟨S, 0, refE S x y z⟩ := if_pos hE
    rw [hX]
    exact ⟨hb, .inr ⟨hE, rfl⟩⟩
set_option maxRecDepth 100000 in
set_option maxHeartbeats 1000000 in
theorem set_out (A : Option Addr) (n c : Nat) (RA : Option Addr) (rn rc : Nat) (PA : Option Addr) (pn pc : Nat) (HA : Option Addr) (hn hc : Nat) (S : St) (x y z : Int) (w : World) (hR : StR w w.heap.size A n RA rn PA pn HA hn S) (hK : StK n c rn pn hn S) :
    Calls Tryz.prog 42 #[.agg #[.slice A n c, .slice RA rn rc, .slice PA pn pc, .slice HA hn hc], .int .i64 x, .int .i64 y, .int .i64 z] w fun e w' => Below w.heap.size w w' ∧
      (((setO S x y z).er = 0 ∧ ∃ (B1 : Option Addr) (n1 d1 : Nat) (B2 : Option Addr) (n2 d2 : Nat) (B3 : Option Addr) (n3 d3 : Nat) (B4 : Option Addr) (n4 d4 : Nat), e = .returned (.tuple #[.agg #[.slice B1 n1 d1, .slice B2 n2 d2, .slice B3 n3 d3, .slice B4 n4 d4], .int .i64 0]) ∧ StO w' w.heap.size B1 n1 d1 B2 n2 d2 B3 n3 d3 B4 n4 d4 (setO S x y z).st) ∨
       ((setO S x y z).er ≠ 0 ∧ e = .returned (.tuple #[.agg #[.slice none 0 0, .slice none 0 0, .slice none 0 0, .slice none 0 0], .int .i64 (setO S x y z).er]))) := by
  by_cases hE : refE S x y z = 0
  · obtain ⟨hOK, k, X, K, O, s, i, rfl, rfl, rfl, hx, hO, hk, ho⟩ := refE_zero hE
    have hy : S.r[O]? = some S.r[O] := List.getElem?_eq_getElem ho
    obtain ⟨-, q2, q3⟩ := root_val hOK (List.mem_of_getElem? hy)
    refine (setFn_ok A n c RA rn rc PA pn pc HA hn hc S k X K O S.r[O] s i w hR hK hOK hx hO hk hy (by omega)).mono ?_
    rintro e w' ⟨hb, A1, c1, A2, c2, A3, c3, A4, c4, rfl, hO'⟩
    rw [setO_is hE hx hy]
    exact ⟨hb, .inl ⟨rfl, A1, n, c1, A2, rn, c2, A3, pn, c3, A4, hn, c4, rfl, hO'⟩⟩
  · refine (setFn_bad A n c RA rn rc PA pn pc HA hn hc S x y z w hR hK hE).mono ?_
    rintro e w' ⟨hb, rfl⟩
    have hX : setO S x y z = ⟨S, 0, refE S x y z⟩ := if_pos hE
    rw [hX]
    exact ⟨hb, .inr ⟨hE, rfl⟩⟩
set_option maxRecDepth 100000 in
set_option maxHeartbeats 1000000 in
theorem put_out (A : Option Addr) (n c : Nat) (RA : Option Addr) (rn rc : Nat) (PA : Option Addr) (pn pc : Nat) (HA : Option Addr) (hn hc : Nat) (S : St) (x y v : Int) (w : World) (hR : StR w w.heap.size A n RA rn PA pn HA hn S) (hK : StK n c rn pn hn S) :
    Calls Tryz.prog 45 #[.agg #[.slice A n c, .slice RA rn rc, .slice PA pn pc, .slice HA hn hc], .int .i64 x, .int .i64 y, .int .u64 v] w fun e w' => Below w.heap.size w w' ∧
      (((putO S x y v).er = 0 ∧ ∃ (B1 : Option Addr) (n1 d1 : Nat) (B2 : Option Addr) (n2 d2 : Nat) (B3 : Option Addr) (n3 d3 : Nat) (B4 : Option Addr) (n4 d4 : Nat), e = .returned (.tuple #[.agg #[.slice B1 n1 d1, .slice B2 n2 d2, .slice B3 n3 d3, .slice B4 n4 d4], .int .i64 0]) ∧ StO w' w.heap.size B1 n1 d1 B2 n2 d2 B3 n3 d3 B4 n4 d4 (putO S x y v).st) ∨
       ((putO S x y v).er ≠ 0 ∧ e = .returned (.tuple #[.agg #[.slice none 0 0, .slice none 0 0, .slice none 0 0, .slice none 0 0], .int .i64 (putO S x y v).er]))) := by
  by_cases hE : bodyE S x y = 0
  · obtain ⟨hOK, k, X, K, s, i, rfl, rfl, hx, hO, hk⟩ := bodyE_zero hE
    refine (put_ok A n c RA rn rc PA pn pc HA hn hc S k X K v s i w hR hK hOK hx hO hk).mono ?_
    rintro e w' ⟨hb, A1, c1, A2, c2, A3, c3, A4, c4, rfl, hO'⟩
    rw [putO_is hE hx hO]
    exact ⟨hb, .inl ⟨rfl, A1, n, c1, A2, rn, c2, A3, pn, c3, A4, hn, c4, rfl, hO'⟩⟩
  · refine (put_bad A n c RA rn rc PA pn pc HA hn hc S x y v w hR hK hE).mono ?_
    rintro e w' ⟨hb, rfl⟩
    have hX : putO S x y v = ⟨S, 0, bodyE S x y⟩ := if_pos hE
    rw [hX]
    exact ⟨hb, .inr ⟨hE, rfl⟩⟩
set_option maxRecDepth 100000 in
set_option maxHeartbeats 1000000 in
theorem pin_out (A : Option Addr) (n c : Nat) (RA : Option Addr) (rn rc : Nat) (PA : Option Addr) (pn pc : Nat) (HA : Option Addr) (hn hc : Nat) (S : St) (x : Int) (w : World) (hR : StR w w.heap.size A n RA rn PA pn HA hn S) (hK : StK n c rn pn hn S) :
    Calls Tryz.prog 46 #[.agg #[.slice A n c, .slice RA rn rc, .slice PA pn pc, .slice HA hn hc], .int .i64 x] w fun e w' => Below w.heap.size w w' ∧
      (((pinO S x).er = 0 ∧ ∃ (B1 : Option Addr) (n1 d1 : Nat) (B2 : Option Addr) (n2 d2 : Nat) (B3 : Option Addr) (n3 d3 : Nat) (B4 : Option Addr) (n4 d4 : Nat), e = .returned (.tuple #[.agg #[.slice B1 n1 d1, .slice B2 n2 d2, .slice B3 n3 d3, .slice B4 n4 d4], .int .i64 (pinO S x).told, .int .i64 0]) ∧ StO w' w.heap.size B1 n1 d1 B2 n2 d2 B3 n3 d3 B4 n4 d4 (pinO S x).st) ∨
       ((pinO S x).er ≠ 0 ∧ e = .returned (.tuple #[.agg #[.slice none 0 0, .slice none 0 0, .slice none 0 0, .slice none 0 0], .int .i64 0, .int .i64 (pinO S x).er]))) := by
  by_cases hE : objE S x = 0
  · obtain ⟨hOK, k, X, s, i, rfl, hx, hO, -⟩ := root_obj hE
    refine (pinFn_obj A n c RA rn rc PA pn pc HA hn hc S k X s i w hR hK hOK hx hO).mono ?_
    rintro e w' ⟨hb, ⟨j, hP, A1, c1, A2, c2, A3, m, c3, A4, c4, rfl, hO'⟩ | ⟨hno, h0, rfl⟩⟩
    · rw [pinO_ok hE hx hP]
      exact ⟨hb, .inl ⟨rfl, A1, n, c1, A2, rn, c2, A3, m, c3, A4, hn, c4, rfl, hO'⟩⟩
    · rw [pinO_no hE hx hno]
      exact ⟨hb, .inr ⟨h0, rfl⟩⟩
  · refine (pinFn_bad A n c RA rn rc PA pn pc HA hn hc S x w hR hK hE).mono ?_
    rintro e w' ⟨hb, rfl⟩
    have hX : pinO S x = ⟨S, 0, objE S x⟩ := if_pos hE
    rw [hX]
    exact ⟨hb, .inr ⟨hE, rfl⟩⟩
set_option maxRecDepth 100000 in
set_option maxHeartbeats 1000000 in
theorem unpin_out (A : Option Addr) (n c : Nat) (RA : Option Addr) (rn rc : Nat) (PA : Option Addr) (pn pc : Nat) (HA : Option Addr) (hn hc : Nat) (S : St) (x : Int) (w : World) (hR : StR w w.heap.size A n RA rn PA pn HA hn S) (hK : StK n c rn pn hn S) :
    Calls Tryz.prog 47 #[.agg #[.slice A n c, .slice RA rn rc, .slice PA pn pc, .slice HA hn hc], .int .i64 x] w fun e w' => Below w.heap.size w w' ∧
      (((unpinO S x).er = 0 ∧ ∃ (B1 : Option Addr) (n1 d1 : Nat) (B2 : Option Addr) (n2 d2 : Nat) (B3 : Option Addr) (n3 d3 : Nat) (B4 : Option Addr) (n4 d4 : Nat), e = .returned (.tuple #[.agg #[.slice B1 n1 d1, .slice B2 n2 d2, .slice B3 n3 d3, .slice B4 n4 d4], .int .i64 0]) ∧ StO w' w.heap.size B1 n1 d1 B2 n2 d2 B3 n3 d3 B4 n4 d4 (unpinO S x).st) ∨
       ((unpinO S x).er ≠ 0 ∧ e = .returned (.tuple #[.agg #[.slice none 0 0, .slice none 0 0, .slice none 0 0, .slice none 0 0], .int .i64 (unpinO S x).er]))) := by
  by_cases hE : stE S = 0
  · have hOK := stE_ok.1 hE
    refine (unpinFn_ok A n c RA rn rc PA pn pc HA hn hc S x w hR hK hOK).mono ?_
    rintro e w' ⟨hb, ⟨j, hP, A1, c1, A2, c2, A3, m, c3, A4, c4, rfl, hO'⟩ | ⟨hno, h0, rfl⟩⟩
    · rw [unpinO_ok hOK hP]
      exact ⟨hb, .inl ⟨rfl, A1, n, c1, A2, rn, c2, A3, m, c3, A4, hn, c4, rfl, hO'⟩⟩
    · rw [unpinO_no hOK hno]
      exact ⟨hb, .inr ⟨h0, rfl⟩⟩
  · refine (unpinFn_bad A n c RA rn rc PA pn pc HA hn hc S x w hR hK hE).mono ?_
    rintro e w' ⟨hb, rfl⟩
    have hX : unpinO S x = ⟨S, 0, stE S⟩ := if_pos hE
    rw [hX]
    exact ⟨hb, .inr ⟨hE, rfl⟩⟩
set_option maxRecDepth 100000 in
set_option maxHeartbeats 1000000 in
theorem open_out (A : Option Addr) (n c : Nat) (RA : Option Addr) (rn rc : Nat) (PA : Option Addr) (pn pc : Nat) (HA : Option Addr) (hn hc : Nat) (S : St) (x : Int) (w : World) (hR : StR w w.heap.size A n RA rn PA pn HA hn S) (hK : StK n c rn pn hn S) :
    Calls Tryz.prog 49 #[.agg #[.slice A n c, .slice RA rn rc, .slice PA pn pc, .slice HA hn hc], .int .i64 x] w fun e w' => Below w.heap.size w w' ∧
      (((openO S x).er = 0 ∧ ∃ (B1 : Option Addr) (n1 d1 : Nat) (B2 : Option Addr) (n2 d2 : Nat) (B3 : Option Addr) (n3 d3 : Nat) (B4 : Option Addr) (n4 d4 : Nat), e = .returned (.tuple #[.agg #[.slice B1 n1 d1, .slice B2 n2 d2, .slice B3 n3 d3, .slice B4 n4 d4], .int .u64 (openO S x).told, .int .i64 0]) ∧ StO w' w.heap.size B1 n1 d1 B2 n2 d2 B3 n3 d3 B4 n4 d4 (openO S x).st) ∨
       ((openO S x).er ≠ 0 ∧ e = .returned (.tuple #[.agg #[.slice none 0 0, .slice none 0 0, .slice none 0 0, .slice none 0 0], .int .u64 0, .int .i64 (openO S x).er]))) := by
  by_cases hE : objE S x = 0
  · obtain ⟨hOK, k, X, s, i, rfl, hx, hO, -⟩ := root_obj hE
    rcases open_cases hOK (root_at (List.mem_of_getElem? hx) (by omega)) with ⟨h1, j, sl, hop, -⟩ | h1
    · refine (openFn_ok A n c RA rn rc PA pn pc HA hn hc S k X s i j sl w hR hK hOK hx hO h1 hop.ix hop.at_ hop.free).mono ?_
      rintro e w' ⟨hb, A1, c1, A2, c2, A3, c3, A4, c4, rfl, hO'⟩
      rw [openO_is hE hx h1 hop.ix hop.at_]
      exact ⟨hb, .inl ⟨rfl, A1, n, c1, A2, rn, c2, A3, pn, c3, A4, hn, c4, rfl, hO'⟩⟩
    · have h7 : openE S.l X ≠ 0 := by rw [h1]; decide
      refine (openFn_full A n c RA rn rc PA pn pc HA hn hc S k X s i w hR hK hOK hx hO h7).mono ?_
      rintro e w' ⟨hb, rfl⟩
      rw [openO_no hE hx h7]
      exact ⟨hb, .inr ⟨h7, rfl⟩⟩
  · refine (openFn_bad A n c RA rn rc PA pn pc HA hn hc S x w hR hK hE).mono ?_
    rintro e w' ⟨hb, rfl⟩
    have hX : openO S x = ⟨S, 0, objE S x⟩ := if_pos hE
    rw [hX]
    exact ⟨hb, .inr ⟨hE, rfl⟩⟩
set_option maxRecDepth 100000 in
set_option maxHeartbeats 1000000 in
theorem use_out (A : Option Addr) (n c : Nat) (RA : Option Addr) (rn rc : Nat) (PA : Option Addr) (pn pc : Nat) (HA : Option Addr) (hn hc : Nat) (S : St) (v x : Int) (v0 : 0 ≤ v) (v1 : v < 18446744073709551616) (w : World) (hR : StR w w.heap.size A n RA rn PA pn HA hn S) (hK : StK n c rn pn hn S) :
    Calls Tryz.prog 50 #[.agg #[.slice A n c, .slice RA rn rc, .slice PA pn pc, .slice HA hn hc], .int .u64 v, .int .i64 x] w fun e w' => Below w.heap.size w w' ∧
      (((useO S v x).er = 0 ∧ ∃ (B1 : Option Addr) (n1 d1 : Nat) (B2 : Option Addr) (n2 d2 : Nat) (B3 : Option Addr) (n3 d3 : Nat) (B4 : Option Addr) (n4 d4 : Nat), e = .returned (.tuple #[.agg #[.slice B1 n1 d1, .slice B2 n2 d2, .slice B3 n3 d3, .slice B4 n4 d4], .int .i64 0]) ∧ StO w' w.heap.size B1 n1 d1 B2 n2 d2 B3 n3 d3 B4 n4 d4 (useO S v x).st) ∨
       ((useO S v x).er ≠ 0 ∧ e = .returned (.tuple #[.agg #[.slice none 0 0, .slice none 0 0, .slice none 0 0, .slice none 0 0], .int .i64 (useO S v x).er]))) := by
  by_cases hE : slotTE S x = 0
  · obtain ⟨hOK, k, rfl, hk⟩ := slotTE_zero hE
    cases hf : findS S.l v with
    | some sl =>
      refine (useFn_ok A n c RA rn rc PA pn pc HA hn hc S v k sl w hR hK hOK hk v0 v1 hf).mono ?_
      rintro e w' ⟨hb, A1, c1, A2, c2, A3, c3, A4, c4, rfl, hO'⟩
      have hX : useO S v k = ⟨⟨S.a, S.r.set k sl.loc, S.p, S.l⟩, 0, 0⟩ := by
        unfold useO
        rw [if_neg (by rw [hE]; decide), hf, Int.toNat_natCast]
      rw [hX]
      exact ⟨hb, .inl ⟨rfl, A1, n, c1, A2, rn, c2, A3, pn, c3, A4, hn, c4, rfl, hO'⟩⟩
    | none =>
      refine (useFn_stale A n c RA rn rc PA pn pc HA hn hc S v k w hR hK hOK hk v0 v1 hf).mono ?_
      rintro e w' ⟨hb, rfl⟩
      have hX : useO S v k = ⟨S, 0, 9⟩ := by
        unfold useO
        rw [if_neg (by rw [hE]; decide), hf]
      rw [hX]
      exact ⟨hb, .inr ⟨(show ¬ (9 : Int) = 0 by decide), rfl⟩⟩
  · refine (useFn_bad A n c RA rn rc PA pn pc HA hn hc S v x w hR hK hE).mono ?_
    rintro e w' ⟨hb, rfl⟩
    have hX : useO S v x = ⟨S, 0, slotTE S x⟩ := if_pos hE
    rw [hX]
    exact ⟨hb, .inr ⟨hE, rfl⟩⟩
set_option maxRecDepth 100000 in
set_option maxHeartbeats 1000000 in
theorem shut_out (A : Option Addr) (n c : Nat) (RA : Option Addr) (rn rc : Nat) (PA : Option Addr) (pn pc : Nat) (HA : Option Addr) (hn hc : Nat) (S : St) (v : Int) (v0 : 0 ≤ v) (v1 : v < 18446744073709551616) (w : World) (hR : StR w w.heap.size A n RA rn PA pn HA hn S) (hK : StK n c rn pn hn S) :
    Calls Tryz.prog 51 #[.agg #[.slice A n c, .slice RA rn rc, .slice PA pn pc, .slice HA hn hc], .int .u64 v] w fun e w' => Below w.heap.size w w' ∧
      (((shutO S v).er = 0 ∧ ∃ (B1 : Option Addr) (n1 d1 : Nat) (B2 : Option Addr) (n2 d2 : Nat) (B3 : Option Addr) (n3 d3 : Nat) (B4 : Option Addr) (n4 d4 : Nat), e = .returned (.tuple #[.agg #[.slice B1 n1 d1, .slice B2 n2 d2, .slice B3 n3 d3, .slice B4 n4 d4], .int .i64 0]) ∧ StO w' w.heap.size B1 n1 d1 B2 n2 d2 B3 n3 d3 B4 n4 d4 (shutO S v).st) ∨
       ((shutO S v).er ≠ 0 ∧ e = .returned (.tuple #[.agg #[.slice none 0 0, .slice none 0 0, .slice none 0 0, .slice none 0 0], .int .i64 (shutO S v).er]))) := by
  by_cases hE : stE S = 0
  · have hOK := stE_ok.1 hE
    cases hf : findS S.l v with
    | some sl =>
      refine (shutFn_ok A n c RA rn rc PA pn pc HA hn hc S v _ sl w hR hK hOK v0 v1 (findS_some.1 hf)).mono ?_
      rintro e w' ⟨hb, A1, c1, A2, c2, A3, c3, A4, c4, rfl, hO'⟩
      have hX : shutO S v = ⟨⟨S.a, S.r, S.p, S.l.set (v % 65536).toNat ⟨sl.gen, false, 0⟩⟩, 0, 0⟩ := by
        unfold shutO
        rw [if_neg (by rw [hE]; decide), hf]
      rw [hX]
      exact ⟨hb, .inl ⟨rfl, A1, n, c1, A2, rn, c2, A3, pn, c3, A4, hn, c4, rfl, hO'⟩⟩
    | none =>
      refine (shutFn_stale A n c RA rn rc PA pn pc HA hn hc S v w hR hK hOK v0 v1 (fun j sl hfd => ?_)).mono ?_
      · have h1 := hfd.1
        have h2 : (v % 65536).toNat = j := by omega
        have h3 := findS_some.2 (by rw [h2]; exact hfd)
        rw [hf] at h3
        cases h3
      · rintro e w' ⟨hb, rfl⟩
        have hX : shutO S v = ⟨S, 0, 9⟩ := by
          unfold shutO
          rw [if_neg (by rw [hE]; decide), hf]
        rw [hX]
        exact ⟨hb, .inr ⟨(show ¬ (9 : Int) = 0 by decide), rfl⟩⟩
  · refine (shutFn_bad A n c RA rn rc PA pn pc HA hn hc S v w hR hK hE).mono ?_
    rintro e w' ⟨hb, rfl⟩
    have hX : shutO S v = ⟨S, 0, stE S⟩ := if_pos hE
    rw [hX]
    exact ⟨hb, .inr ⟨hE, rfl⟩⟩
set_option maxRecDepth 100000 in
set_option maxHeartbeats 1000000 in
theorem drop_out (A : Option Addr) (n c : Nat) (RA : Option Addr) (rn rc : Nat) (PA : Option Addr) (pn pc : Nat) (HA : Option Addr) (hn hc : Nat) (S : St) (x : Int) (w : World) (hR : StR w w.heap.size A n RA rn PA pn HA hn S) (hK : StK n c rn pn hn S) :
    Calls Tryz.prog 52 #[.agg #[.slice A n c, .slice RA rn rc, .slice PA pn pc, .slice HA hn hc], .int .i64 x] w fun e w' => Below w.heap.size w w' ∧
      (((dropO S x).er = 0 ∧ ∃ (B1 : Option Addr) (n1 d1 : Nat) (B2 : Option Addr) (n2 d2 : Nat) (B3 : Option Addr) (n3 d3 : Nat) (B4 : Option Addr) (n4 d4 : Nat), e = .returned (.tuple #[.agg #[.slice B1 n1 d1, .slice B2 n2 d2, .slice B3 n3 d3, .slice B4 n4 d4], .int .i64 0]) ∧ StO w' w.heap.size B1 n1 d1 B2 n2 d2 B3 n3 d3 B4 n4 d4 (dropO S x).st) ∨
       ((dropO S x).er ≠ 0 ∧ e = .returned (.tuple #[.agg #[.slice none 0 0, .slice none 0 0, .slice none 0 0, .slice none 0 0], .int .i64 (dropO S x).er]))) := by
  by_cases hE : slotTE S x = 0
  · obtain ⟨hOK, k, rfl, hk⟩ := slotTE_zero hE
    refine (dropFn_ok A n c RA rn rc PA pn pc HA hn hc S k w hR hK hOK hk).mono ?_
    rintro e w' ⟨hb, A1, c1, A2, c2, A3, c3, A4, c4, rfl, hO'⟩
    have hX : dropO S k = ⟨⟨S.a, S.r.set k (-1), S.p, S.l⟩, 0, 0⟩ := by
      unfold dropO
      rw [if_neg (by rw [hE]; decide), Int.toNat_natCast]
    rw [hX]
    exact ⟨hb, .inl ⟨rfl, A1, n, c1, A2, rn, c2, A3, pn, c3, A4, hn, c4, rfl, hO'⟩⟩
  · refine (dropFn_bad A n c RA rn rc PA pn pc HA hn hc S x w hR hK hE).mono ?_
    rintro e w' ⟨hb, rfl⟩
    have hX : dropO S x = ⟨S, 0, slotTE S x⟩ := if_pos hE
    rw [hX]
    exact ⟨hb, .inr ⟨hE, rfl⟩⟩
set_option maxRecDepth 100000 in
set_option maxHeartbeats 1000000 in
theorem get_out (A : Option Addr) (n c : Nat) (RA : Option Addr) (rn rc : Nat) (PA : Option Addr) (pn pc : Nat) (HA : Option Addr) (hn hc : Nat) (S : St) (x y : Int) (w : World) (hR : StR w w.heap.size A n RA rn PA pn HA hn S) (hK : StK n c rn pn hn S) :
    Calls Tryz.prog 43 #[.agg #[.slice A n c, .slice RA rn rc, .slice PA pn pc, .slice HA hn hc], .int .i64 x, .int .i64 y] w fun e w' => Below w.heap.size w w' ∧ e = .returned (.tuple #[.int .u64 (getO S x y).told, .int .i64 (getO S x y).er]) ∧ (getO S x y).st = S := by
  by_cases hE : bodyE S x y = 0
  · obtain ⟨hOK, k, X, K, s, i, rfl, rfl, hx, hO, hk⟩ := bodyE_zero hE
    have hfit := hO.ok.fits
    have hr0 := hO.ok.r0
    have hloc := hO.loc
    have hlen : X + 1 + s.r.toNat + K < S.a.length := by simp only [Spot.long] at hfit; omega
    have hw := hK.wf _ (List.getElem_mem hlen)
    obtain ⟨v, hv⟩ := Int.eq_ofNat_of_zero_le (show 0 ≤ S.a[X + 1 + s.r.toNat + K] by simp [Lit.wf, IntKind.min, IntKind.max, IntKind.signed, IntKind.bits] at hw; omega)
    have hv' : S.a[X + 1 + s.r.toNat + K]? = some (v : Int) := by rw [List.getElem?_eq_getElem hlen, hv]
    refine (get_ok A n c RA rn rc PA pn pc HA hn hc S k X K v s i w hR hK hOK hx hO hk hv').mono ?_
    rintro e w' ⟨hb, rfl⟩
    rw [getO_is hE hx hO hv']
    exact ⟨hb, rfl, rfl⟩
  · refine (get_bad A n c RA rn rc PA pn pc HA hn hc S x y w hR hK hE).mono ?_
    rintro e w' ⟨hb, rfl⟩
    have hX : getO S x y = ⟨S, 0, bodyE S x y⟩ := if_pos hE
    rw [hX]
    exact ⟨hb, rfl, rfl⟩
set_option maxRecDepth 100000 in
set_option maxHeartbeats 1000000 in
theorem peek_out (A : Option Addr) (n c : Nat) (RA : Option Addr) (rn rc : Nat) (PA : Option Addr) (pn pc : Nat) (HA : Option Addr) (hn hc : Nat) (S : St) (x k : Int) (w : World) (hR : StR w w.heap.size A n RA rn PA pn HA hn S) (hK : StK n c rn pn hn S) :
    Calls Tryz.prog 48 #[.agg #[.slice A n c, .slice RA rn rc, .slice PA pn pc, .slice HA hn hc], .int .i64 x, .int .i64 k] w fun e w' => Below w.heap.size w w' ∧ e = .returned (.tuple #[.int .u64 (peekO S x k).told, .int .i64 (peekO S x k).er]) ∧ (peekO S x k).st = S := by
  by_cases hE : stE S = 0
  · have hOK := stE_ok.1 hE
    by_cases hp : x ∈ pinsL S.p
    · obtain ⟨y, hy, rfl⟩ := List.mem_map.1 hp
      obtain ⟨s, i, hO⟩ := obj_at hOK (pin_at hy)
      have hs : (spotAt (spotsL S.a) y.loc).getD ⟨0, 0, 0, 0, false⟩ = s := by rw [hO.spot]; rfl
      by_cases hk : k < 0 ∨ s.b ≤ k
      · refine (peek_range A n c RA rn rc PA pn pc HA hn hc S y.loc k s i w hR hK hOK hp hO hk).mono ?_
        rintro e w' ⟨hb, rfl⟩
        have hX : peekO S y.loc k = ⟨S, 0, 4⟩ := by
          unfold peekO
          rw [if_neg (by rw [hE]; decide), if_neg (fun h => h hp), hs, if_pos hk]
        rw [hX]
        exact ⟨hb, rfl, rfl⟩
      · have hfit := hO.ok.fits
        have hr0 := hO.ok.r0
        have hloc := hO.loc
        obtain ⟨K, rfl⟩ := Int.eq_ofNat_of_zero_le (show 0 ≤ k by omega)
        have hl0 := (begs_lt hOK.arena (hOK.live _ (pin_at hy))).1
        have hlen : s.loc.toNat + 1 + s.r.toNat + K < S.a.length := by simp only [Spot.long] at hfit; omega
        have hw := hK.wf _ (List.getElem_mem hlen)
        obtain ⟨v, hv⟩ := Int.eq_ofNat_of_zero_le (show 0 ≤ S.a[s.loc.toNat + 1 + s.r.toNat + K] by simp [Lit.wf, IntKind.min, IntKind.max, IntKind.signed, IntKind.bits] at hw; omega)
        have hv' : (bodyOf S.a s)[(K : Int).toNat]? = some (v : Int) := by rw [Int.toNat_natCast, body_ix (by omega), List.getElem?_eq_getElem hlen, hv]
        refine (peek_ok A n c RA rn rc PA pn pc HA hn hc S y.loc K s i v w hR hK hOK hp hO (by omega) hv').mono ?_
        rintro e w' ⟨hb, rfl⟩
        have hX : peekO S y.loc K = ⟨S, v, 0⟩ := by
          unfold peekO
          rw [if_neg (by rw [hE]; decide), if_neg (fun h => h hp), hs, if_neg hk, List.getD_eq_getElem?_getD, hv']
          rfl
        rw [hX]
        exact ⟨hb, rfl, rfl⟩
    · refine (peek_free A n c RA rn rc PA pn pc HA hn hc S x k w hR hK hOK hp).mono ?_
      rintro e w' ⟨hb, rfl⟩
      have hX : peekO S x k = ⟨S, 0, 8⟩ := by
        unfold peekO
        rw [if_neg (by rw [hE]; decide), if_pos hp]
      rw [hX]
      exact ⟨hb, rfl, rfl⟩
  · refine (peek_bad A n c RA rn rc PA pn pc HA hn hc S x k w hR hK hE).mono ?_
    rintro e w' ⟨hb, rfl⟩
    have hX : peekO S x k = ⟨S, 0, stE S⟩ := if_pos hE
    rw [hX]
    exact ⟨hb, rfl, rfl⟩
end Go.Proofs.YtbmkbnalembbjaaGreatDoor

namespace Go.Proofs.YtbmkbnalembbjaaGreatDoor
open Go.RowKit
def FTab (w : World) : Prop := 0 < w.heap.size ∧ ∀ k i : Nat, k < 14 → i < 4 → w.cell? ⟨0, k * 4 + i, none⟩ = some (.bool (formB k i))
theorem FTab.below {w w' : World} (h : FTab w) (hb : Below w.heap.size w w') : FTab w' := ⟨Nat.lt_of_lt_of_le h.1 hb.size, fun k i hk hi => (hb.cell (p := ⟨0, k * 4 + i, none⟩) h.1).trans (h.2 k i hk hi)⟩
theorem Blk.five {w : World} {g : Nat} {t : TypeId} {a b c d e : Value} (h : Blk w g t #[a, b, c, d, e]) : w.cell? ⟨g, 0, none⟩ = some a ∧ w.cell? ⟨g, 1, none⟩ = some b ∧ w.cell? ⟨g, 2, none⟩ = some c ∧ w.cell? ⟨g, 3, none⟩ = some d ∧ w.cell? ⟨g, 4, none⟩ = some e := ⟨h.cell 0, h.cell 1, h.cell 2, h.cell 3, h.cell 4⟩
set_option maxRecDepth 100000 in
set_option maxHeartbeats 4000000 in
theorem right_any (k a b c v : Int) (w : World) (hT : FTab w) :
    Calls Tryz.prog 38 #[.agg #[.int .i64 k, .int .i64 a, .int .i64 b, .int .i64 c, .int .u64 v]] w fun e w' => Below w.heap.size w w' ∧ e = .returned (.bool (rightB ⟨k, a, b, c, v⟩)) := by
  have hb := below_new w (.cells #[.int .i64 k, .int .i64 a, .int .i64 b, .int .i64 c, .int .u64 v] 52)
  have DO := Blk.new w 52 #[.int .i64 k, .int .i64 a, .int .i64 b, .int .i64 c, .int .u64 v]
  by_cases h1 : k < 1
  · have hX : rightB ⟨k, a, b, c, v⟩ = false := by
      unfold rightB
      rw [show decide ((1 : Int) ≤ k) = false from decide_eq_false (by omega)]
      rfl
    rw [hX]
    have g1 : decide (k < 1) = true := decide_eq_true h1
    obtain ⟨m0, m1, m2, m3, m4⟩ := DO.five
    clear h1 hX
    go_enter Tryz.func38, Tryz.ntmps38
    go_wp2_with fail
    go_ret
    exact ⟨hb, rfl⟩
  · have g1 : decide (k < 1) = false := decide_eq_false h1
    by_cases h2 : 13 < k
    · have hX : rightB ⟨k, a, b, c, v⟩ = false := by
        unfold rightB
        rw [show decide (k ≤ (13 : Int)) = false from decide_eq_false (by omega), Bool.and_false]
        rfl
      rw [hX]
      have g2 : decide (13 < k) = true := decide_eq_true h2
      obtain ⟨m0, m1, m2, m3, m4⟩ := DO.five
      clear h1 h2 hX
      go_enter Tryz.func38, Tryz.ntmps38
      go_wp2_with fail
      go_ret
      exact ⟨hb, rfl⟩
    · obtain ⟨K, rfl⟩ := Int.eq_ofNat_of_zero_le (show 0 ≤ k by omega)
      have g2 : decide ((13 : Int) < (K : Int)) = false := decide_eq_false h2
      have g2' : decide (13 < K) = false := decide_eq_false (by omega)
      have g1' : decide (K < 1) = false := decide_eq_false (by omega)
      have hK : K < 14 := by omega
      have hX : rightB ⟨K, a, b, c, v⟩ = ((formB K 0 || a == 0) && (formB K 1 || b == 0) && (formB K 2 || c == 0) && (formB K 3 || v == 0)) := by
        unfold rightB
        rw [show decide ((1 : Int) ≤ K) = true from decide_eq_true (by omega), show decide ((K : Int) ≤ (13 : Int)) = true from decide_eq_true (by omega), Int.toNat_natCast]
        rfl
      rw [hX]
      have hT1 := hT.below hb
      have f0 := hT1.2 K 0 hK (by decide)
      have f1 := hT1.2 K 1 hK (by decide)
      have f2 := hT1.2 K 2 hK (by decide)
      have f3 := hT1.2 K 3 hK (by decide)
      rw [Nat.add_zero] at f0
      generalize formB K 0 = q0 at *
      generalize formB K 1 = q1 at *
      generalize formB K 2 = q2 at *
      generalize formB K 3 = q3 at *
      have HBf := Lib.hid (fun q0 q1 q2 q3 => hb.alloc hb.size (.cells #[.bool q0, .bool q1, .bool q2, .bool q3] 139))
      have DF := Blk.new (w.alloc (.cells #[.int .i64 (K : Int), .int .i64 a, .int .i64 b, .int .i64 c, .int .u64 v] 52)) 139 #[.bool q0, .bool q1, .bool q2, .bool q3]
      have DO2 := DO.alloc (.cells #[.bool q0, .bool q1, .bool q2, .bool q3] 139)
      rw [World.size_alloc] at DF
      obtain ⟨m0, m1, m2, m3, m4⟩ := DO.five
      obtain ⟨o0, o1, o2, o3, o4⟩ := DO2.five
      obtain ⟨d0, d1, d2, d3⟩ := DF.four
      clear hX h1 h2 hT hT1 DO DO2 DF hb
      go_enter Tryz.func38, Tryz.ntmps38
      go_wp2_with fail
      all_goals try subst_vars
      all_goals first | (go_ret; refine ⟨HBf.out _ _ _ _, ?_⟩; simp_all; done) | skip
set_option maxHeartbeats 1000000 in
theorem only_any (X1 : Option Addr) (a1 b1 : Nat) (X2 : Option Addr) (a2 b2 : Nat) (X3 : Option Addr) (a3 b3 : Nat) (X4 : Option Addr) (a4 b4 : Nat) (E : Int) (w : World) :
    Calls Tryz.prog 40 #[.agg #[.slice X1 a1 b1, .slice X2 a2 b2, .slice X3 a3 b3, .slice X4 a4 b4], .int .i64 E] w fun e w' => Below w.heap.size w w' ∧ e = .returned (.tuple #[.agg #[.slice X1 a1 b1, .slice X2 a2 b2, .slice X3 a3 b3, .slice X4 a4 b4], .int .u64 0, .int .i64 E]) := by
  have hb := (below_new w (.cells #[.slice X1 a1 b1, .slice X2 a2 b2, .slice X3 a3 b3, .slice X4 a4 b4] 28)).alloc (by simp) (.cells #[.slice X1 a1 b1, .slice X2 a2 b2, .slice X3 a3 b3, .slice X4 a4 b4] 28)
  have DS := (Blk.new w 28 #[.slice X1 a1 b1, .slice X2 a2 b2, .slice X3 a3 b3, .slice X4 a4 b4]).alloc (.cells #[.slice none 0 0, .slice none 0 0, .slice none 0 0, .slice none 0 0] 28)
  have DR := Blk.new (w.alloc (.cells #[.slice X1 a1 b1, .slice X2 a2 b2, .slice X3 a3 b3, .slice X4 a4 b4] 28)) 28 #[.slice none 0 0, .slice none 0 0, .slice none 0 0, .slice none 0 0]
  have DZ := Blk.new (w.alloc (.cells #[.slice X1 a1 b1, .slice X2 a2 b2, .slice X3 a3 b3, .slice X4 a4 b4] 28)) 28 #[.slice X1 a1 b1, .slice X2 a2 b2, .slice X3 a3 b3, .slice X4 a4 b4]
  rw [World.size_alloc] at DR DZ
  obtain ⟨s0, s1, s2, s3⟩ := DS.four
  obtain ⟨r0, r1, r2, r3⟩ := DR.four
  obtain ⟨f0, f1, f2, f3⟩ := DR.four_frozen
  go_enter Tryz.func40, Tryz.ntmps40
  go_wp2_with fail
  refine bodyPost_ret (v := .tuple #[.agg #[.slice X1 a1 b1, .slice X2 a2 b2, .slice X3 a3 b3, .slice X4 a4 b4], .int .u64 0, .int .i64 E]) ?_ rfl ⟨hb, rfl⟩
  obtain ⟨z0, z1, z2, z3⟩ := DZ.four
  simp only [results, Tryz.results40]
  go_simp
set_option maxHeartbeats 1000000 in
theorem number_any (X1 : Option Addr) (a1 b1 : Nat) (X2 : Option Addr) (a2 b2 : Nat) (X3 : Option Addr) (a3 b3 : Nat) (X4 : Option Addr) (a4 b4 : Nat) (N : Nat) (E : Int) (hN : N < 18446744073709551616) (w : World) :
    Calls Tryz.prog 39 #[.agg #[.slice X1 a1 b1, .slice X2 a2 b2, .slice X3 a3 b3, .slice X4 a4 b4], .int .i64 N, .int .i64 E] w fun e w' => Below w.heap.size w w' ∧ e = .returned (.tuple #[.agg #[.slice X1 a1 b1, .slice X2 a2 b2, .slice X3 a3 b3, .slice X4 a4 b4], .int .u64 N, .int .i64 E]) := by
  have hw : IntKind.u64.wrap (N : Int) = (N : Int) := IntWalk.u64_in _ (by omega)
  have hb := (below_new w (.cells #[.slice X1 a1 b1, .slice X2 a2 b2, .slice X3 a3 b3, .slice X4 a4 b4] 28)).alloc (by simp) (.cells #[.slice X1 a1 b1, .slice X2 a2 b2, .slice X3 a3 b3, .slice X4 a4 b4] 28)
  have DS := (Blk.new w 28 #[.slice X1 a1 b1, .slice X2 a2 b2, .slice X3 a3 b3, .slice X4 a4 b4]).alloc (.cells #[.slice none 0 0, .slice none 0 0, .slice none 0 0, .slice none 0 0] 28)
  have DR := Blk.new (w.alloc (.cells #[.slice X1 a1 b1, .slice X2 a2 b2, .slice X3 a3 b3, .slice X4 a4 b4] 28)) 28 #[.slice none 0 0, .slice none 0 0, .slice none 0 0, .slice none 0 0]
  have DZ := Blk.new (w.alloc (.cells #[.slice X1 a1 b1, .slice X2 a2 b2, .slice X3 a3 b3, .slice X4 a4 b4] 28)) 28 #[.slice X1 a1 b1, .slice X2 a2 b2, .slice X3 a3 b3, .slice X4 a4 b4]
  rw [World.size_alloc] at DR DZ
  obtain ⟨s0, s1, s2, s3⟩ := DS.four
  obtain ⟨r0, r1, r2, r3⟩ := DR.four
  obtain ⟨f0, f1, f2, f3⟩ := DR.four_frozen
  go_enter Tryz.func39, Tryz.ntmps39
  go_wp2_with fail
  refine bodyPost_ret (v := .tuple #[.agg #[.slice X1 a1 b1, .slice X2 a2 b2, .slice X3 a3 b3, .slice X4 a4 b4], .int .u64 N, .int .i64 E]) ?_ rfl ⟨hb, rfl⟩
  obtain ⟨z0, z1, z2, z3⟩ := DZ.four
  simp only [results, Tryz.results39]
  go_simp
set_option maxRecDepth 100000 in
set_option maxHeartbeats 2000000 in
theorem kept_bad (X1 : Option Addr) (a1 b1 : Nat) (X2 : Option Addr) (a2 b2 : Nat) (X3 : Option Addr) (a3 b3 : Nat) (X4 : Option Addr) (a4 b4 : Nat) (v E : Int) (hE : E ≠ 0) (w : World) :
    Calls Tryz.prog 44 #[.agg #[.slice X1 a1 b1, .slice X2 a2 b2, .slice X3 a3 b3, .slice X4 a4 b4], .int .u64 v, .int .i64 E] w fun e w' => Below w.heap.size w w' ∧ e = .returned (.tuple #[.agg #[.slice none 0 0, .slice none 0 0, .slice none 0 0, .slice none 0 0], .int .u64 0, .int .i64 E]) := by
  have g1 : (E != 0) = true := by simpa using hE
  have hb := (below_new w (.cells #[.slice X1 a1 b1, .slice X2 a2 b2, .slice X3 a3 b3, .slice X4 a4 b4] 28)).alloc (by simp) (.cells #[.slice none 0 0, .slice none 0 0, .slice none 0 0, .slice none 0 0] 28)
  have DS := (Blk.new w 28 #[.slice X1 a1 b1, .slice X2 a2 b2, .slice X3 a3 b3, .slice X4 a4 b4]).alloc (.cells #[.slice none 0 0, .slice none 0 0, .slice none 0 0, .slice none 0 0] 28)
  have DR := Blk.new (w.alloc (.cells #[.slice X1 a1 b1, .slice X2 a2 b2, .slice X3 a3 b3, .slice X4 a4 b4] 28)) 28 #[.slice none 0 0, .slice none 0 0, .slice none 0 0, .slice none 0 0]
  rw [World.size_alloc] at DR
  obtain ⟨s0, s1, s2, s3⟩ := DS.four
  obtain ⟨r0, r1, r2, r3⟩ := DR.four
  obtain ⟨f0, f1, f2, f3⟩ := DR.four_frozen
  go_enter Tryz.func44, Tryz.ntmps44
  go_wp2_with fail
  refine bodyPost_ret (v := .tuple #[.agg #[.slice none 0 0, .slice none 0 0, .slice none 0 0, .slice none 0 0], .int .u64 0, .int .i64 E]) ?_ rfl ⟨hb, rfl⟩
  obtain ⟨z0, z1, z2, z3⟩ := DR.four
  simp only [results, Tryz.results44]
  go_simp
set_option maxRecDepth 100000 in
set_option maxHeartbeats 2000000 in
theorem kept_ok (A : Option Addr) (n c : Nat) (RA : Option Addr) (rn rc : Nat) (PA : Option Addr) (pn pc : Nat) (HA : Option Addr) (hn hc : Nat) (S : St) (v : Int) (w : World) (hR : StR w w.heap.size A n RA rn PA pn HA hn S) (_ : StK n c rn pn hn S) (hOK : StOk S) :
    Calls Tryz.prog 44 #[.agg #[.slice A n c, .slice RA rn rc, .slice PA pn pc, .slice HA hn hc], .int .u64 v, .int .i64 0] w fun e w' => Below w.heap.size w w' ∧ ∃ (B1 : Option Addr) (n1 d1 : Nat) (B2 : Option Addr) (n2 d2 : Nat) (B3 : Option Addr) (n3 d3 : Nat) (B4 : Option Addr) (n4 d4 : Nat), e = .returned (.tuple #[.agg #[.slice B1 n1 d1, .slice B2 n2 d2, .slice B3 n3 d3, .slice B4 n4 d4], .int .u64 v, .int .i64 0]) ∧ StO w' w.heap.size B1 n1 d1 B2 n2 d2 B3 n3 d3 B4 n4 d4 S := by
  obtain ⟨y1, y2, y3, y4, -⟩ := hOK.lens
  obtain ⟨z1, z2, z3, z4⟩ := hR.lens
  have HOw := Lib.hid (fun w hR => pown_any A n c RA rn rc PA pn pc HA hn hc S w hR (by omega) (by omega) (by omega) (by omega))
  have hb := (below_new w (.cells #[.slice A n c, .slice RA rn rc, .slice PA pn pc, .slice HA hn hc] 28)).alloc (by simp) (.cells #[.slice none 0 0, .slice none 0 0, .slice none 0 0, .slice none 0 0] 28)
  have DS := (Blk.new w 28 #[.slice A n c, .slice RA rn rc, .slice PA pn pc, .slice HA hn hc]).alloc (.cells #[.slice none 0 0, .slice none 0 0, .slice none 0 0, .slice none 0 0] 28)
  have DR := Blk.new (w.alloc (.cells #[.slice A n c, .slice RA rn rc, .slice PA pn pc, .slice HA hn hc] 28)) 28 #[.slice none 0 0, .slice none 0 0, .slice none 0 0, .slice none 0 0]
  rw [World.size_alloc] at DR
  obtain ⟨s0, s1, s2, s3⟩ := DS.four
  clear y1 y2 y3 y4 z1 z2 z3 z4
  go_enter Tryz.func44, Tryz.ntmps44
  go_wp2_with fail
  refine (HOw.out _ ((hR.below hb).more hb.size)).mono ?_
  rintro e w2 ⟨hb2, A1, c1, A2, c2, A3, c3, A4, c4, rfl, hO⟩
  have hb02 := below_step hb hb2
  have DR2 := DR.below hb2 DR.lt
  have hO2 := hO.mono hb.size
  clear s0 s1 s2 s3
  obtain ⟨r0, r1, r2, r3⟩ := DR2.four
  obtain ⟨f0, f1, f2, f3⟩ := DR2.four_frozen
  go_wp2_with fail
  refine bodyPost_ret (v := .tuple #[.agg #[.slice A1 n c1, .slice A2 rn c2, .slice A3 pn c3, .slice A4 hn c4], .int .u64 v, .int .i64 0]) ?_ rfl ⟨below_block4 (g := w.heap.size + 1) hb02 (Nat.le_succ _) _ _ _ _, A1, n, c1, A2, rn, c2, A3, pn, c3, A4, hn, c4, rfl, hO2.store DR2 _ _ _ _⟩
  obtain ⟨z0, z1, z2, z3⟩ := (DR2.store4 (.slice A1 n c1) (.slice A2 rn c2) (.slice A3 pn c3) (.slice A4 hn c4)).four
  simp only [results, Tryz.results44]
  go_simp
end Go.Proofs.YtbmkbnalembbjaaGreatDoor
