/-
  Texts joined: NineLaw NineRun NumLaw StPeek.
-/
import Derived.Lib.AtoiTie
import Derived.Test.YtfikonmhbhcejaaGreatDoorT13
import Derived.Test.YtfikonmhbhcejaaGreatDoorT16
import Derived.Test.YtfikonmhbhcejaaGreatDoorT18
namespace Go.Proofs.YtfikonmhbhcejaaGreatDoor
open Go.RowKit
theorem gapsP_live : ∀ (P : List Chk) (i m : Nat), (∀ c ∈ P, c.f = false) → m ≠ 0 → gapsP i 0 (P ++ [freeC m]) = [⟨(i + (chunksW P).length : Nat), m⟩]
  | [], i, m, _, hm => by
    show gapsP i 0 [freeC m] = _
    unfold gapsP
    rw [if_pos (freeC_f m)]
    unfold gapsP flushG
    rw [freeC_len hm, if_neg (by omega)]
    simp [chunksW]
  | c :: P, i, m, hP, hm => by
    have hc : c.f = false := hP c List.mem_cons_self
    rw [List.cons_append]
    unfold gapsP
    rw [if_neg (by rw [hc]; decide), gapsP_live P (i + c.len) m (fun d hd => hP d (List.mem_cons_of_mem _ hd)) hm]
    unfold flushG
    rw [if_pos rfl, chunksW_cons, List.length_append, chkW_length, List.nil_append, Nat.add_assoc]
theorem joinP_live : ∀ (P : List Chk) (m : Nat), (∀ c ∈ P, c.f = false) → m ≠ 0 → joinP 0 (P ++ [freeC m]) = P ++ [freeC m]
  | [], m, _, hm => by
    show joinP 0 [freeC m] = _
    unfold joinP
    rw [if_pos (freeC_f m)]
    unfold joinP flushC
    rw [freeC_len hm, if_neg (by omega)]
    simp
  | c :: P, m, hP, hm => by
    have hc : c.f = false := hP c List.mem_cons_self
    rw [List.cons_append]
    unfold joinP
    rw [if_neg (by rw [hc]; decide), joinP_live P m (fun d hd => hP d (List.mem_cons_of_mem _ hd)) hm]
    unfold flushC
    rw [if_pos rfl]
    rfl
structure EndGap (a : List Int) (P : List Chk) (m : Nat) : Prop where
  a_ : a = chunksW (P ++ [freeC m])
  m0 : m ≠ 0
  ok : ∀ c ∈ P, c.ok ∧ c.f = false
section
variable {a : List Int} {P : List Chk} {m : Nat} (h : EndGap a P m) (hC : checkE a = 0)
include h hC
theorem EndGap.len : (chunksW P).length + m ≤ 256 ∧ a.length = (chunksW P).length + m := by
  have hl := (parse_ok (checkE_ok.1 hC).1).1
  have e : a.length = (chunksW P).length + m := by
    rw [h.a_, chunksW_append, List.length_append]
    have : (chunksW [freeC m]).length = m := by
      rw [chunksW_cons, List.length_append, chkW_length, freeC_len h.m0]
      simp [chunksW]
    omega
  omega
theorem EndGap.oks : ∀ c ∈ P ++ [freeC m], c.ok := by
  intro c hc
  have := (h.len hC).1
  rcases List.mem_append.1 hc with hc | hc
  · exact (h.ok c hc).1
  · obtain rfl := List.mem_singleton.1 hc
    exact freeC_ok h.m0 (by omega)
theorem EndGap.spots : spotsL a = spotsFrom 0 (P ++ [freeC m]) := by
  have hl := (parse_ok (checkE_ok.1 hC).1).1
  rw [h.a_] at hl ⊢
  exact (chunks_spots (h.oks hC) hl).2
theorem EndGap.gaps : ggL a = [⟨((chunksW P).length : Nat), m⟩] ∧ gapsL (spotsL a) = [⟨((chunksW P).length : Nat), m⟩] := by
  have e : gapsL (spotsL a) = [⟨((chunksW P).length : Nat), m⟩] := by
    rw [h.spots hC, gapsL_chunks (h.oks hC), gapsP_live P 0 m (fun c hc => (h.ok c hc).2) h.m0, Nat.zero_add]
  exact ⟨by unfold ggL; rw [if_pos hC, e], e⟩
theorem EndGap.take {r b t : Int} (hE : headE r b t false = 0) (hf : 1 + r + b < m) :
    fitsE (ggL a) (1 + r + b) = 0 ∧ firstG a (1 + r + b) = ⟨((chunksW P).length : Nat), m⟩ ∧ takenA a ⟨((chunksW P).length : Nat), m⟩ r b t = chunksW (P ++ [newC r b t] ++ [freeC (m - (1 + r + b).toNat)]) := by
  obtain ⟨h1, h2, h3, h4, h5, h6, h7, -⟩ := headE_ok.1 hE
  obtain ⟨g1, g2⟩ := h.gaps hC
  have hfit : fitIx (1 + r + b) 0 [⟨((chunksW P).length : Nat), (m : Int)⟩] = [0] := by
    unfold fitIx
    rw [if_pos (show 1 + r + b ≤ (m : Int) by omega)]
    rfl
  have hF : fitsE (ggL a) (1 + r + b) = 0 := by
    rw [g1]
    unfold fitsE
    rw [if_neg (by omega), if_neg, hfit, if_neg (by simp)]
    simp [badRun]
    have := h.m0
    omega
  have hV : firstV (ggL a) (1 + r + b) = 0 := by
    unfold firstV fitsL
    rw [if_pos hF, g1, hfit]
    rfl
  refine ⟨hF, ?_, ?_⟩
  · unfold firstG
    rw [hV, g1]
    rfl
  · unfold takenA joined
    rw [g2]
    have hj := joinL_chunks (P ++ [freeC m]) [] []
    simp only [List.nil_append, List.length_nil, Nat.add_zero, Nat.zero_add] at hj
    rw [gapsP_live P 0 m (fun c hc => (h.ok c hc).2) h.m0, Nat.zero_add, joinP_live P m (fun c hc => (h.ok c hc).2) h.m0, ← h.a_] at hj
    rw [hj, h.a_]
    dsimp only
    have ht := take_chunks (P := P) (c := freeC m) (Q := []) (t := t) hE (by rw [freeC_len h.m0]; omega)
    rw [freeC_len h.m0, List.append_nil] at ht
    rw [Int.toNat_natCast, Int.toNat_natCast, ht]
    unfold flushC
    rw [if_neg (by omega), List.append_assoc]
    rfl
end
theorem make_end {S : St} {P : List Chk} {m k : Nat} {r b t : Int} (hS : StGood S) (h : EndGap S.a P m) (hE : headE r b t false = 0) (hf : 1 + r + b < m) (hk : k < S.r.length) :
    makeO S k r b t = ⟨⟨chunksW (P ++ [newC r b t] ++ [freeC (m - (1 + r + b).toNat)]), S.r.set k ((chunksW P).length : Nat), S.p, S.l⟩, 0, 0⟩ := by
  obtain ⟨t1, t2, t3⟩ := h.take hS.ok.arena (t := t) hE hf
  have hM : makeE S k r b t false = 0 := by
    unfold makeE
    rw [if_neg (by rw [stE_ok.2 hS.ok]; decide), if_neg (by omega), if_neg (by rw [hE]; decide), if_neg (by decide)]
  unfold makeO
  rw [if_neg (by rw [hM]; decide), if_pos t1]
  unfold putIn
  rw [t2, Int.toNat_natCast, t3]
def nC (t k v : Int) : Chk := ⟨1, 2, t, false, [k, 0, v]⟩
def nD : Chk := ⟨0, 1, 0, false, [0]⟩
def nS (cs : List Chk) (x y : Int) (s : Slot) (rr : List Int) (hh : List Slot) : St := ⟨chunksW cs, x :: y :: rr, [], s :: hh⟩
def h0 : Slot := ⟨0, false, 0⟩
theorem nC_ok {t k v : Int} (t0 : 0 ≤ t) (t1 : t ≤ 65535) : (nC t k v).ok := ⟨headE_ok.2 (by simp [nC]; omega), rfl⟩
theorem nD_ok : nD.ok := ⟨by decide, rfl⟩
theorem nS0 {n R H : Nat} (hn : n ≠ 0) : newSt n (R + 2) (H + 1) = nS [freeC n] (-1) (-1) h0 (List.replicate R (-1)) (List.replicate H h0) := by
  unfold newSt nS
  rw [newA_chunks]
  unfold flushC
  rw [if_neg hn]
  rfl
section
variable {t k v : Int} {n m : Nat} {x y : Int} {s : Slot} {rr : List Int} {hh : List Slot}
theorem end0 (hn : n ≠ 0) : EndGap (nS [freeC n] x y s rr hh).a [] n := ⟨rfl, hn, fun c hc => by cases hc⟩
theorem end1 (t0 : 0 ≤ t) (t1 : t ≤ 65535) (hn : n ≠ 0) : EndGap (nS [nC t k v, freeC n] x y s rr hh).a [nC t k v] n :=
  ⟨rfl, hn, fun c hc => by obtain rfl := List.mem_singleton.1 hc; exact ⟨nC_ok t0 t1, rfl⟩⟩
theorem end2 (t0 : 0 ≤ t) (t1 : t ≤ 65535) (hm : m ≠ 0) : EndGap (nS [nC t k v, nD, freeC m] x y s rr hh).a [nC t k v, nD] m :=
  ⟨rfl, hm, fun c hc => by
    rcases List.mem_cons.1 hc with rfl | hc
    · exact ⟨nC_ok t0 t1, rfl⟩
    · obtain rfl := List.mem_singleton.1 hc
      exact ⟨nD_ok, rfl⟩⟩
theorem nine1 (t0 : 0 ≤ t) (t1 : t ≤ 65535) (hn : n ≠ 0) (hS : StGood (nS [freeC (n + 4)] (-1) y s rr hh)) :
    makeO (nS [freeC (n + 4)] (-1) y s rr hh) (0 : Nat) 1 2 t = ⟨nS [nC t 0 0, freeC n] 0 y s rr hh, 0, 0⟩ := by
  rw [make_end (P := []) (m := n + 4) hS (end0 (by omega)) (headE_ok.2 (by simp; omega)) (by omega) (by simp [nS])]
  rw [show (1 + 1 + 2 : Int).toNat = 4 by decide, Nat.add_sub_cancel]
  rfl
theorem nine4 (t0 : 0 ≤ t) (t1 : t ≤ 65535) (hm : m ≠ 0) (hS : StGood (nS [nC t k v, freeC (m + 2)] x (-1) s rr hh)) :
    makeO (nS [nC t k v, freeC (m + 2)] x (-1) s rr hh) (1 : Nat) 0 1 0 = ⟨nS [nC t k v, nD, freeC m] x 4 s rr hh, 0, 0⟩ := by
  rw [make_end (P := [nC t k v]) (m := m + 2) hS (end1 t0 t1 (by omega)) (by decide) (by omega) (by simp [nS])]
  rw [show (1 + 0 + 1 : Int).toNat = 2 by decide, Nat.add_sub_cancel]
  rfl
end
theorem obj0 {S : St} {t k v : Int} {Q : List Chk} (hS : StOk S) (ha : S.a = chunksW (nC t k v :: Q)) (hok : ∀ c ∈ nC t k v :: Q, c.ok) : spotsL S.a = ⟨0, 1, 2, t, false⟩ :: spotsFrom 4 Q ∧ ObjAt S 0 ⟨0, 1, 2, t, false⟩ 0 ∧ spotAt (spotsL S.a) 0 = some ⟨0, 1, 2, t, false⟩ := by
  have hl := (parse_ok (checkE_ok.1 hS.arena).1).1
  have e : spotsL S.a = ⟨0, 1, 2, t, false⟩ :: spotsFrom 4 Q := by
    rw [ha] at hl ⊢
    rw [(chunks_spots hok hl).2]
    rfl
  have hmem := parse_mem (parse_ok (checkE_ok.1 hS.arena).1).2
  have h1 : spotAt (spotsL S.a) 0 = some ⟨0, 1, 2, t, false⟩ := by rw [e]; rfl
  refine ⟨e, ⟨?_, by rw [e]; rfl, h1, (hmem _ (by rw [e]; exact List.mem_cons_self)).1, rfl, rfl⟩, h1⟩
  unfold atIx
  rw [e]
  rfl
section
variable {t k v : Int} {n m : Nat} {y : Int} {s : Slot} {rr : List Int} {hh : List Slot}
theorem oks1 (t0 : 0 ≤ t) (t1 : t ≤ 65535) (hn : n ≠ 0) (hS : StGood (nS [nC t k v, freeC n] 0 y s rr hh)) : ∀ c ∈ [nC t k v, freeC n], c.ok := (end1 t0 t1 hn).oks hS.ok.arena
theorem objE0 (hS : StGood (nS [nC t k v, freeC n] 0 y s rr hh)) : objE (nS [nC t k v, freeC n] 0 y s rr hh) 0 = 0 := objE_of (k := 0) hS.ok rfl (by decide)
theorem spS0 (t0 : 0 ≤ t) (t1 : t ≤ 65535) (hn : n ≠ 0) (hS : StGood (nS [nC t k v, freeC n] 0 y s rr hh)) : spS (nS [nC t k v, freeC n] 0 y s rr hh) 0 = ⟨0, 1, 2, t, false⟩ := by
  obtain ⟨-, -, h⟩ := obj0 hS.ok rfl (oks1 t0 t1 hn hS)
  unfold spS
  rw [show (nS [nC t k v, freeC n] 0 y s rr hh).r.getD (0 : Int).toNat 0 = 0 from rfl, h]
  rfl
theorem bodyE0 (t0 : 0 ≤ t) (t1 : t ≤ 65535) (hn : n ≠ 0) (hS : StGood (nS [nC t k v, freeC n] 0 y s rr hh)) : bodyE (nS [nC t k v, freeC n] 0 y s rr hh) 0 1 = 0 := by
  unfold bodyE
  rw [if_neg (by rw [objE0 hS]; decide), spS0 t0 t1 hn hS]
  exact if_neg (show ¬ ((1 : Int) < 0 ∨ (2 : Int) ≤ 1) by decide)
theorem nine2 (t0 : 0 ≤ t) (t1 : t ≤ 65535) (hn : n ≠ 0) (hS : StGood (nS [nC t k 0, freeC n] 0 y s rr hh)) (v : Int) :
    putO (nS [nC t k 0, freeC n] 0 y s rr hh) 0 1 v = ⟨nS [nC t k v, freeC n] 0 y s rr hh, 0, 0⟩ := by
  unfold putO
  rw [if_neg (by rw [bodyE0 t0 t1 hn hS]; decide), spS0 t0 t1 hn hS]
  rfl
theorem nine3 (t0 : 0 ≤ t) (t1 : t ≤ 65535) (hn : n ≠ 0) (hS : StGood (nS [nC t 0 v, freeC n] 0 y s rr hh)) :
    setO (nS [nC t 0 v, freeC n] 0 y s rr hh) 0 0 0 = ⟨nS [nC t 1 v, freeC n] 0 y s rr hh, 0, 0⟩ := by
  have hE : refE (nS [nC t 0 v, freeC n] 0 y s rr hh) 0 0 0 = 0 := by
    unfold refE
    rw [if_neg (by rw [objE0 hS]; decide), spS0 t0 t1 hn hS, if_neg (show ¬ ((0 : Int) < 0 ∨ (1 : Int) ≤ 0) by decide), if_neg]
    have : 0 < (nS [nC t 0 v, freeC n] 0 y s rr hh).r.length := by simp [nS]
    omega
  unfold setO
  rw [if_neg (by rw [hE]; decide)]
  rfl
theorem nine5 (hS : StGood (nS [nC t k v, nD, freeC m] 0 4 s rr hh)) : dropO (nS [nC t k v, nD, freeC m] 0 4 s rr hh) 1 = ⟨nS [nC t k v, nD, freeC m] 0 (-1) s rr hh, 0, 0⟩ := by
  unfold dropO slotTE
  rw [if_neg]
  · rfl
  · rw [if_neg (by rw [stE_ok.2 hS.ok]; decide), if_neg]
    · decide
    · simp only [nS, List.length_cons]; omega
theorem nine7 (t0 : 0 ≤ t) (t1 : t ≤ 65535) (hn : n ≠ 0) (hS : StGood (nS [nC t k v, freeC n] 0 y s rr hh)) :
    getO (nS [nC t k v, freeC n] 0 y s rr hh) 0 1 = ⟨nS [nC t k v, freeC n] 0 y s rr hh, v, 0⟩ := by
  unfold getO
  rw [if_neg (by rw [bodyE0 t0 t1 hn hS]; decide), spS0 t0 t1 hn hS]
  rfl
theorem nine8 (hS : StGood (nS [nC t k v, freeC n] 0 y h0 rr hh)) :
    openO (nS [nC t k v, freeC n] 0 y h0 rr hh) 0 = ⟨nS [nC t k v, freeC n] 0 y ⟨1, true, 0⟩ rr hh, 65536, 0⟩ := by
  have hf : freeIx (h0 :: hh) = 0 := freeIx_some _ 0 h0 rfl (by decide) (by simp)
  have hE : openE (h0 :: hh) 0 = 0 := by
    unfold openE
    rw [if_neg (by rw [show handE (h0 :: hh) = 0 from hS.ok.hands]; decide), if_neg (by decide), hf]
    exact if_neg (by decide)
  unfold openO
  rw [if_neg (by rw [objE0 hS]; decide), show atX (nS [nC t k v, freeC n] 0 y h0 rr hh) 0 = 0 from rfl, show (nS [nC t k v, freeC n] 0 y h0 rr hh).l = h0 :: hh from rfl, if_neg (by rw [hE]; decide), hf]
  rfl
theorem nine9 (hS : StGood (nS [nC t k v, freeC n] 0 y ⟨1, true, 0⟩ rr hh)) :
    useO (nS [nC t k v, freeC n] 0 y ⟨1, true, 0⟩ rr hh) 65536 1 = ⟨nS [nC t k v, freeC n] 0 0 ⟨1, true, 0⟩ rr hh, 0, 0⟩ := by
  have hE : slotTE (nS [nC t k v, freeC n] 0 y ⟨1, true, 0⟩ rr hh) 1 = 0 := by
    unfold slotTE
    rw [if_neg (by rw [stE_ok.2 hS.ok]; decide), if_neg]
    simp only [nS, List.length_cons]; omega
  unfold useO
  rw [if_neg (by rw [hE]; decide), show findS (nS [nC t k v, freeC n] 0 y ⟨1, true, 0⟩ rr hh).l 65536 = some ⟨1, true, 0⟩ from rfl]
  rfl
end
theorem only_zero {l : List Int} (hs : l.Pairwise (fun x y => x < y)) (h : ∀ x, x ∈ l ↔ x = 0) : l = [0] := by
  match l, hs, h with
  | [], _, h => exact absurd ((h 0).2 rfl) (by simp)
  | [x], _, h => rw [(h x).1 List.mem_cons_self]
  | x :: y :: l, hs, h =>
    have h1 := (h x).1 List.mem_cons_self
    have h2 := (h y).1 (List.mem_cons_of_mem _ List.mem_cons_self)
    have h3 := (List.pairwise_cons.1 hs).1 y List.mem_cons_self
    omega
theorem coll0 {S : St} {t v y : Int} {s : Slot} {rr : List Int} {hh : List Slot} {Q : List Chk} {n : Nat} (hS : StGood S) (e : S = nS (nC t 1 v :: Q) 0 y s rr hh) (hok : ∀ c ∈ nC t 1 v :: Q, c.ok) (hy : y = -1 ∨ y = 0) (hs : s.opn = false ∨ s.loc = 0) (hrr : ∀ x ∈ rr, x = -1) (hhh : ∀ z ∈ hh, z.opn = false)
    (hn : S.a.length = n + 4) (n0 : n ≠ 0) (t0 : 0 ≤ t) (t1 : t ≤ 65535) : ∃ L Y now, Coll S (nS [nC t 1 v, freeC n] 0 y s rr hh) n L Y now := by
  have ha : S.a = chunksW (nC t 1 v :: Q) := by rw [e]; rfl
  obtain ⟨hsp, hO, hat⟩ := obj0 hS.ok ha hok
  have hin : (0 : Int) ∈ begsL (spotsL S.a) := begsL_iff.2 ⟨_, hat⟩
  have hmem : ∀ x, x ∈ S.begs ↔ x = 0 := by
    intro x
    rw [rooted_begs, e]
    unfold rootedL nS openL pinsL
    simp only [List.mem_append, List.mem_filter, List.mem_cons, decide_eq_true_eq, List.mem_map, List.not_mem_nil, false_and, exists_false, or_false]
    constructor
    · rintro (⟨h | h | h, h2⟩ | ⟨z, ⟨h | h, h2⟩, rfl⟩)
      · exact h
      · rcases hy with h3 | h3 <;> omega
      · have := hrr x h; omega
      · subst h
        rcases hs with h3 | h3
        · rw [h3] at h2; cases h2
        · exact h3
      · rw [hhh z h] at h2; cases h2
    · rintro rfl
      exact .inl ⟨.inl rfl, by decide⟩
  have hbegs : S.begs = [0] := only_zero (fromL_strict _ _ _) hmem
  have hC := hS.ok.arena
  have hlinks : linksAt S.a (spotsL S.a) 0 = [0] := by
    unfold linksAt
    rw [hat]
    dsimp only
    unfold linksL refsOf
    rw [ha]
    rfl
  have hlE : longsE S.a [0] [] = 0 := by
    refine longsE_ok.2 ⟨hC, rfl, rfl, fun x hx => ?_, fun x hx => by cases hx⟩
    obtain rfl := List.mem_singleton.1 hx
    rw [hsp]
    exact show (0 : Int) ≤ 0 by decide
  have hlV : longsV S.a [0] [] = [4] := by
    unfold longsV
    rw [if_pos hlE, hsp]
    rfl
  have hY : slidGo [] 0 [0] (longsV S.a [0] []) = [0] := by rw [hlV]; rfl
  have hrow : rowAt S.a (posL [0] [0]) 0 = nC t 1 v := by
    unfold rowAt
    rw [hat]
    dsimp only
    rw [ha]
    rfl
  have hb : slidW S.a [0] [] = chunksW [nC t 1 v, freeC n] := by
    unfold slidW rowsOf
    rw [hY]
    show chunksW (laidC S.a.length 0 [((0 : Int).toNat, rowAt S.a (posL [0] [0]) 0)]) = _
    rw [hrow, hn]
    unfold laidC laidC flushC
    rw [if_pos (show Int.toNat 0 - 0 = 0 from rfl), if_neg (show ¬ n + 4 - (Int.toNat 0 + (nC t 1 v).len) = 0 by show ¬ n + 4 - (0 + 4) = 0; omega)]
    show chunksW (nC t 1 v :: [freeC (n + 4 - (0 + 4))]) = _
    rw [show n + 4 - (0 + 4) = n by omega]
  have hCl : CleanIs S.a S.begs (pinsL S.p) [0] [0] (chunksW [nC t 1 v, freeC n]) [0] := by
    have hp : pinsL S.p = [] := by rw [e]; rfl
    rw [hp]
    refine ⟨hC, rfl, ⟨fun x hx => ?_, fun x hx => ?_, fun x hx z hz => ?_, fun X h1 _ x hx => ?_, by simp, by simp⟩, hlE, hY.symm, hb.symm, ?_⟩
    · obtain rfl := List.mem_singleton.1 hx
      exact hin
    · rw [List.append_nil] at hx
      rw [(hmem x).1 hx]
      exact List.mem_cons_self
    · obtain rfl := List.mem_singleton.1 hx
      rw [hlinks] at hz
      exact hz
    · obtain rfl := List.mem_singleton.1 hx
      exact h1 0 (by rw [List.append_nil]; exact (hmem 0).2 rfl)
    · rw [hbegs]
      rfl
  have hC' : checkE (chunksW [nC t 1 v, freeC n]) = 0 := (cleaned_of hCl).laid.check
  have hE : EndGap (chunksW [nC t 1 v, freeC n]) [nC t 1 v] n := end1 (x := 0) (y := y) (s := s) (rr := rr) (hh := hh) t0 t1 n0
  have hput : ∀ k : Nat, (putsL (List.replicate k 0) [0] [0]).getD 0 0 = 0 := by
    intro k
    cases k <;> rfl
  refine ⟨[0], [0], [0], hCl, ?_, by rw [e]; rfl, ?_, ?_⟩
  · rw [hbegs, e]
    show 0 :: y :: rr = (0 :: y :: rr).map _
    have h1 : ∀ k x, x = -1 ∨ x = 0 → swapV (putsL (List.replicate k 0) [0] [0]) x = x := by
      rintro k x (rfl | rfl)
      · rfl
      · unfold swapV
        rw [if_pos (by decide)]
        exact hput k
    symm
    refine (List.map_congr_left (g := id) (fun x hx => ?_)).trans (List.map_id _)
    rcases List.mem_cons.1 hx with rfl | hx
    · exact h1 _ _ (.inr rfl)
    rcases List.mem_cons.1 hx with rfl | hx
    · exact h1 _ _ hy
    · exact h1 _ _ (.inl (hrr x hx))
  · rw [hbegs, e]
    show s :: hh = (s :: hh).map _
    symm
    refine (List.map_congr_left (g := id) (fun z hz => ?_)).trans (List.map_id _)
    unfold swapS
    by_cases ho : z.opn = true
    · rw [if_pos ho]
      rcases List.mem_cons.1 hz with rfl | hz
      · rcases hs with h3 | h3
        · rw [h3] at ho; cases ho
        · rw [h3]
          obtain ⟨zg, zo, zl⟩ := z
          simp only at ho h3
          subst ho h3
          show (⟨zg, true, (putsL (List.replicate 256 0) [0] [0]).getD 0 0⟩ : Slot) = _
          rw [hput]
          rfl
      · rw [hhh z hz] at ho; cases ho
    · rw [if_neg ho]
      rfl
  · show (n : Int) = freeL (chunksW [nC t 1 v, freeC n])
    unfold freeL
    rw [(hE.gaps hC').1]
    simp [rsum]
theorem nine6 {t v : Int} {m : Nat} {rr : List Int} {hh : List Slot} (hS : StGood (nS [nC t 1 v, nD, freeC m] 0 (-1) h0 rr hh)) (t0 : 0 ≤ t) (t1 : t ≤ 65535) (hm : m ≠ 0) (hrr : ∀ x ∈ rr, x = -1) (hhh : ∀ z ∈ hh, z.opn = false) :
    collO (nS [nC t 1 v, nD, freeC m] 0 (-1) h0 rr hh) = ⟨nS [nC t 1 v, freeC (m + 2)] 0 (-1) h0 rr hh, (m + 2 : Nat), 0⟩ := by
  have hE := end2 (t := t) (k := 1) (v := v) (x := 0) (y := -1) (s := h0) (rr := rr) (hh := hh) t0 t1 hm
  obtain ⟨L, Y, now, hC⟩ := coll0 (n := m + 2) hS rfl (hE.oks hS.ok.arena) (.inl rfl) (.inl rfl) hrr hhh (by rw [(hE.len hS.ok.arena).2]; show 4 + 2 + m = _; omega) (by omega) t0 t1
  unfold collO
  rw [if_neg (by rw [stE_ok.2 hS.ok]; decide), hC.sweep]
end Go.Proofs.YtfikonmhbhcejaaGreatDoor

namespace Go.Proofs.YtfikonmhbhcejaaGreatDoor
open Go.RowKit
theorem run_step {S S' : St} {o : OpV} {d : Int} (h : doO S o = ⟨S', d, 0⟩) : nextS S o = S' ∧ toldS S o = ⟨0, d⟩ := by
  unfold nextS toldS
  rw [h]
  exact ⟨if_pos rfl, rfl⟩
theorem run_good {S S' : St} {o : OpV} {d : Int} (hS : StGood S) (hv : (Lit.int .u64 o.v).wf = true) (h : doO S o = ⟨S', d, 0⟩) : StGood S' := by
  have := doO_good hS o hv (by rw [h])
  rwa [h] at this
def nineO (t v : Int) : List OpV := [⟨1, 0, 1, 2, t⟩, ⟨6, 0, 1, 0, v⟩, ⟨4, 0, 0, 0, 0⟩, ⟨1, 1, 0, 1, 0⟩, ⟨13, 1, 0, 0, 0⟩, ⟨2, 0, 0, 0, 0⟩, ⟨5, 0, 1, 0, 0⟩, ⟨10, 0, 0, 0, 0⟩, ⟨11, 1, 0, 0, 65536⟩]
structure NineRun (S0 : St) (W : Nat) (t v : Int) (rr : List Int) (hh : List Slot) : Prop where
  d1 : doO S0 ⟨1, 0, 1, 2, t⟩ = ⟨nS [nC t 0 0, freeC (W - 4)] 0 (-1) h0 rr hh, 0, 0⟩
  d2 : doO (nS [nC t 0 0, freeC (W - 4)] 0 (-1) h0 rr hh) ⟨6, 0, 1, 0, v⟩ = ⟨nS [nC t 0 v, freeC (W - 4)] 0 (-1) h0 rr hh, 0, 0⟩
  d3 : doO (nS [nC t 0 v, freeC (W - 4)] 0 (-1) h0 rr hh) ⟨4, 0, 0, 0, 0⟩ = ⟨nS [nC t 1 v, freeC (W - 4)] 0 (-1) h0 rr hh, 0, 0⟩
  d4 : doO (nS [nC t 1 v, freeC (W - 4)] 0 (-1) h0 rr hh) ⟨1, 1, 0, 1, 0⟩ = ⟨nS [nC t 1 v, nD, freeC (W - 6)] 0 4 h0 rr hh, 0, 0⟩
  d5 : doO (nS [nC t 1 v, nD, freeC (W - 6)] 0 4 h0 rr hh) ⟨13, 1, 0, 0, 0⟩ = ⟨nS [nC t 1 v, nD, freeC (W - 6)] 0 (-1) h0 rr hh, 0, 0⟩
  d6 : doO (nS [nC t 1 v, nD, freeC (W - 6)] 0 (-1) h0 rr hh) ⟨2, 0, 0, 0, 0⟩ = ⟨nS [nC t 1 v, freeC (W - 4)] 0 (-1) h0 rr hh, (W - 4 : Nat), 0⟩
  d7 : doO (nS [nC t 1 v, freeC (W - 4)] 0 (-1) h0 rr hh) ⟨5, 0, 1, 0, 0⟩ = ⟨nS [nC t 1 v, freeC (W - 4)] 0 (-1) h0 rr hh, v, 0⟩
  d8 : doO (nS [nC t 1 v, freeC (W - 4)] 0 (-1) h0 rr hh) ⟨10, 0, 0, 0, 0⟩ = ⟨nS [nC t 1 v, freeC (W - 4)] 0 (-1) ⟨1, true, 0⟩ rr hh, 65536, 0⟩
  d9 : doO (nS [nC t 1 v, freeC (W - 4)] 0 (-1) ⟨1, true, 0⟩ rr hh) ⟨11, 1, 0, 0, 65536⟩ = ⟨nS [nC t 1 v, freeC (W - 4)] 0 0 ⟨1, true, 0⟩ rr hh, 0, 0⟩
  good : StGood (nS [nC t 1 v, freeC (W - 4)] 0 0 ⟨1, true, 0⟩ rr hh)
  live : ∃ L Y now, Coll (nS [nC t 1 v, freeC (W - 4)] 0 0 ⟨1, true, 0⟩ rr hh) (nS [nC t 1 v, freeC (W - 4)] 0 0 ⟨1, true, 0⟩ rr hh) (W - 4 : Nat) L Y now
theorem doO_1 (S : St) (a b c t : Int) : doO S ⟨1, a, b, c, t⟩ = makeO S a b c (t % 65536) := by
  unfold doO
  rw [if_neg (by rw [show rightB ⟨1, a, b, c, t⟩ = true from rfl]; decide), if_pos rfl]
theorem doO_6 (S : St) (a b v : Int) : doO S ⟨6, a, b, 0, v⟩ = putO S a b v := by
  unfold doO
  rw [if_neg (by rw [show rightB ⟨6, a, b, 0, v⟩ = true from rfl]; decide), if_neg (show ¬ ((6 : Int) = 1) by decide), if_neg (show ¬ ((6 : Int) = 2) by decide), if_neg (show ¬ ((6 : Int) = 3) by decide), if_neg (show ¬ ((6 : Int) = 4) by decide), if_neg (show ¬ ((6 : Int) = 5) by decide), if_pos rfl]
theorem doO_4 (S : St) (a b c : Int) : doO S ⟨4, a, b, c, 0⟩ = setO S a b c := by
  unfold doO
  rw [if_neg (by rw [show rightB ⟨4, a, b, c, 0⟩ = true from rfl]; decide), if_neg (show ¬ ((4 : Int) = 1) by decide), if_neg (show ¬ ((4 : Int) = 2) by decide), if_neg (show ¬ ((4 : Int) = 3) by decide), if_pos rfl]
theorem doO_13 (S : St) (a : Int) : doO S ⟨13, a, 0, 0, 0⟩ = dropO S a := by
  unfold doO
  rw [if_neg (by rw [show rightB ⟨13, a, 0, 0, 0⟩ = true from rfl]; decide), if_neg (show ¬ ((13 : Int) = 1) by decide), if_neg (show ¬ ((13 : Int) = 2) by decide), if_neg (show ¬ ((13 : Int) = 3) by decide), if_neg (show ¬ ((13 : Int) = 4) by decide), if_neg (show ¬ ((13 : Int) = 5) by decide), if_neg (show ¬ ((13 : Int) = 6) by decide), if_neg (show ¬ ((13 : Int) = 7) by decide), if_neg (show ¬ ((13 : Int) = 8) by decide), if_neg (show ¬ ((13 : Int) = 9) by decide), if_neg (show ¬ ((13 : Int) = 10) by decide), if_neg (show ¬ ((13 : Int) = 11) by decide), if_neg (show ¬ ((13 : Int) = 12) by decide)]
theorem doO_2 (S : St) : doO S ⟨2, 0, 0, 0, 0⟩ = collO S := by
  unfold doO
  rw [if_neg (by decide), if_neg (by decide), if_pos rfl]
theorem doO_5 (S : St) (a b : Int) : doO S ⟨5, a, b, 0, 0⟩ = getO S a b := by
  unfold doO
  rw [if_neg (by rw [show rightB ⟨5, a, b, 0, 0⟩ = true from rfl]; decide), if_neg (show ¬ ((5 : Int) = 1) by decide), if_neg (show ¬ ((5 : Int) = 2) by decide), if_neg (show ¬ ((5 : Int) = 3) by decide), if_neg (show ¬ ((5 : Int) = 4) by decide), if_pos rfl]
theorem doO_10 (S : St) (a : Int) : doO S ⟨10, a, 0, 0, 0⟩ = openO S a := by
  unfold doO
  rw [if_neg (by rw [show rightB ⟨10, a, 0, 0, 0⟩ = true from rfl]; decide), if_neg (show ¬ ((10 : Int) = 1) by decide), if_neg (show ¬ ((10 : Int) = 2) by decide), if_neg (show ¬ ((10 : Int) = 3) by decide), if_neg (show ¬ ((10 : Int) = 4) by decide), if_neg (show ¬ ((10 : Int) = 5) by decide), if_neg (show ¬ ((10 : Int) = 6) by decide), if_neg (show ¬ ((10 : Int) = 7) by decide), if_neg (show ¬ ((10 : Int) = 8) by decide), if_neg (show ¬ ((10 : Int) = 9) by decide), if_pos rfl]
theorem doO_11 (S : St) (a v : Int) : doO S ⟨11, a, 0, 0, v⟩ = useO S v a := by
  unfold doO
  rw [if_neg (by rw [show rightB ⟨11, a, 0, 0, v⟩ = true from rfl]; decide), if_neg (show ¬ ((11 : Int) = 1) by decide), if_neg (show ¬ ((11 : Int) = 2) by decide), if_neg (show ¬ ((11 : Int) = 3) by decide), if_neg (show ¬ ((11 : Int) = 4) by decide), if_neg (show ¬ ((11 : Int) = 5) by decide), if_neg (show ¬ ((11 : Int) = 6) by decide), if_neg (show ¬ ((11 : Int) = 7) by decide), if_neg (show ¬ ((11 : Int) = 8) by decide), if_neg (show ¬ ((11 : Int) = 9) by decide), if_neg (show ¬ ((11 : Int) = 10) by decide), if_pos rfl]
theorem nine_run {W R H : Nat} {t v : Int} (hW : 12 ≤ W) (hW2 : W ≤ 200) (hR : 2 ≤ R) (hR2 : R ≤ 9) (hH : 1 ≤ H) (hH2 : H ≤ 9) (t0 : 0 ≤ t) (t1 : t ≤ 65535) (v0 : 0 ≤ v) (v1 : v < 18446744073709551616) : ∃ rr hh, NineRun (newSt W R H) W t v rr hh := by
  obtain ⟨R', rfl⟩ : ∃ k, R = k + 2 := ⟨R - 2, by omega⟩
  obtain ⟨H', rfl⟩ : ∃ k, H = k + 1 := ⟨H - 1, by omega⟩
  obtain ⟨m, rfl⟩ : ∃ k, W = k + 6 := ⟨W - 6, by omega⟩
  have hG : StGood (newSt (m + 6) (R' + 2) (H' + 1)) := newSt_good (by omega) (by omega) (by omega)
  have eW : m + 6 - 4 = m + 2 := by omega
  have eW2 : m + 6 - 6 = m := by omega
  have hrr : ∀ x ∈ List.replicate R' (-1 : Int), x = -1 := fun x hx => (List.mem_replicate.1 hx).2
  have hhh : ∀ z ∈ List.replicate H' h0, z.opn = false := fun z hz => by rw [(List.mem_replicate.1 hz).2]; rfl
  have e0 : newSt (m + 6) (R' + 2) (H' + 1) = nS [freeC (m + 2 + 4)] (-1) (-1) h0 (List.replicate R' (-1)) (List.replicate H' h0) := nS0 (by omega)
  rw [e0] at hG
  refine ⟨List.replicate R' (-1), List.replicate H' h0, ?_⟩
  rw [e0]
  generalize List.replicate R' (-1 : Int) = rr at *
  generalize List.replicate H' h0 = hh at *
  have wt : (Lit.int .u64 t).wf = true := by simp [Lit.wf, IntKind.min, IntKind.max, IntKind.signed, IntKind.bits]; omega
  have wv : (Lit.int .u64 v).wf = true := by simp [Lit.wf, IntKind.min, IntKind.max, IntKind.signed, IntKind.bits]; omega
  have m0 : m ≠ 0 := by omega
  have d1 : doO (nS [freeC (m + 2 + 4)] (-1) (-1) h0 rr hh) ⟨1, 0, 1, 2, t⟩ = ⟨nS [nC t 0 0, freeC (m + 2)] 0 (-1) h0 rr hh, 0, 0⟩ := by
    rw [doO_1, Int.emod_eq_of_lt t0 (by omega)]
    exact nine1 t0 t1 (by omega) hG
  have G1 := run_good hG wt d1
  have d2 : doO (nS [nC t 0 0, freeC (m + 2)] 0 (-1) h0 rr hh) ⟨6, 0, 1, 0, v⟩ = ⟨nS [nC t 0 v, freeC (m + 2)] 0 (-1) h0 rr hh, 0, 0⟩ := by
    rw [doO_6]
    exact nine2 t0 t1 (by omega) G1 v
  have G2 := run_good G1 wv d2
  have d3 : doO (nS [nC t 0 v, freeC (m + 2)] 0 (-1) h0 rr hh) ⟨4, 0, 0, 0, 0⟩ = ⟨nS [nC t 1 v, freeC (m + 2)] 0 (-1) h0 rr hh, 0, 0⟩ := by
    rw [doO_4]
    exact nine3 t0 t1 (by omega) G2
  have G3 := run_good G2 (by decide) d3
  have d4 : doO (nS [nC t 1 v, freeC (m + 2)] 0 (-1) h0 rr hh) ⟨1, 1, 0, 1, 0⟩ = ⟨nS [nC t 1 v, nD, freeC m] 0 4 h0 rr hh, 0, 0⟩ := by
    rw [doO_1]
    exact nine4 t0 t1 m0 G3
  have G4 := run_good G3 (by decide) d4
  have d5 : doO (nS [nC t 1 v, nD, freeC m] 0 4 h0 rr hh) ⟨13, 1, 0, 0, 0⟩ = ⟨nS [nC t 1 v, nD, freeC m] 0 (-1) h0 rr hh, 0, 0⟩ := by
    rw [doO_13]
    exact nine5 G4
  have G5 := run_good G4 (by decide) d5
  have d6 : doO (nS [nC t 1 v, nD, freeC m] 0 (-1) h0 rr hh) ⟨2, 0, 0, 0, 0⟩ = ⟨nS [nC t 1 v, freeC (m + 2)] 0 (-1) h0 rr hh, (m + 2 : Nat), 0⟩ := by
    rw [doO_2]
    exact nine6 G5 t0 t1 m0 hrr hhh
  have d7 : doO (nS [nC t 1 v, freeC (m + 2)] 0 (-1) h0 rr hh) ⟨5, 0, 1, 0, 0⟩ = ⟨nS [nC t 1 v, freeC (m + 2)] 0 (-1) h0 rr hh, v, 0⟩ := by
    rw [doO_5]
    exact nine7 t0 t1 (by omega) G3
  have d8 : doO (nS [nC t 1 v, freeC (m + 2)] 0 (-1) h0 rr hh) ⟨10, 0, 0, 0, 0⟩ = ⟨nS [nC t 1 v, freeC (m + 2)] 0 (-1) ⟨1, true, 0⟩ rr hh, 65536, 0⟩ := by
    rw [doO_10]
    exact nine8 G3
  have G8 := run_good G3 (by decide) d8
  have d9 : doO (nS [nC t 1 v, freeC (m + 2)] 0 (-1) ⟨1, true, 0⟩ rr hh) ⟨11, 1, 0, 0, 65536⟩ = ⟨nS [nC t 1 v, freeC (m + 2)] 0 0 ⟨1, true, 0⟩ rr hh, 0, 0⟩ := by
    rw [doO_11]
    exact nine9 G8
  have G9 := run_good G8 (by decide) d9
  have hE := end1 (t := t) (k := 1) (v := v) (n := m + 2) (x := 0) (y := 0) (s := ⟨1, true, 0⟩) (rr := rr) (hh := hh) t0 t1 (by omega)
  have hL := coll0 (n := m + 2) (Q := [freeC (m + 2)]) G9 rfl (hE.oks G9.ok.arena) (.inr rfl) (.inr rfl) hrr hhh (by rw [(hE.len G9.ok.arena).2]; show 4 + (m + 2) = _; omega) (by omega) t0 t1
  exact ⟨by rw [eW]; exact d1, by rw [eW]; exact d2, by rw [eW]; exact d3, by rw [eW, eW2]; exact d4, by rw [eW2]; exact d5, by rw [eW, eW2]; exact d6, by rw [eW]; exact d7, by rw [eW]; exact d8, by rw [eW]; exact d9, by rw [eW]; exact G9, by rw [eW]; exact hL⟩
theorem nine_play {S0 : St} {W : Nat} {t v : Int} {rr : List Int} {hh : List Slot} (hr : NineRun S0 W t v rr hh) : playS S0 (nineO t v) = nS [nC t 1 v, freeC (W - 4)] 0 0 ⟨1, true, 0⟩ rr hh ∧
    playT S0 (nineO t v) = [⟨0, 0⟩, ⟨0, 0⟩, ⟨0, 0⟩, ⟨0, 0⟩, ⟨0, 0⟩, ⟨0, (W - 4 : Nat)⟩, ⟨0, v⟩, ⟨0, 65536⟩, ⟨0, 0⟩] := by
  obtain ⟨a1, b1⟩ := run_step hr.d1
  obtain ⟨a2, b2⟩ := run_step hr.d2
  obtain ⟨a3, b3⟩ := run_step hr.d3
  obtain ⟨a4, b4⟩ := run_step hr.d4
  obtain ⟨a5, b5⟩ := run_step hr.d5
  obtain ⟨a6, b6⟩ := run_step hr.d6
  obtain ⟨a7, b7⟩ := run_step hr.d7
  obtain ⟨a8, b8⟩ := run_step hr.d8
  obtain ⟨a9, b9⟩ := run_step hr.d9
  unfold nineO
  constructor
  · simp only [playS, a1, a2, a3, a4, a5, a6, a7, a8, a9]
  · simp only [playT, a1, a2, a3, a4, a5, a6, a7, a8, b1, b2, b3, b4, b5, b6, b7, b8, b9]
end Go.Proofs.YtfikonmhbhcejaaGreatDoor

namespace Go.Proofs.YtfikonmhbhcejaaGreatDoor
open Go.RowKit
theorem decFrom_snoc : ∀ (l : List UInt8) (acc : Nat) (b : UInt8), Lib.decFrom acc (l ++ [b]) = (Lib.decFrom acc l).bind fun n => (Lib.digitVal b).map fun d => n * 10 + d := by
  intro l
  induction l with
  | nil =>
    intro acc b
    simp only [List.nil_append, Lib.decFrom]
    cases Lib.digitVal b <;> rfl
  | cons c l ih =>
    intro acc b
    simp only [List.cons_append, Lib.decFrom]
    cases Lib.digitVal c with
    | none => rfl
    | some d => exact ih _ _
theorem digit_val {i : Nat} (h : i < 10) : Lib.digitVal (UInt8.ofNat (48 + i)) = some i := by
  have : i = 0 ∨ i = 1 ∨ i = 2 ∨ i = 3 ∨ i = 4 ∨ i = 5 ∨ i = 6 ∨ i = 7 ∨ i = 8 ∨ i = 9 := by omega
  rcases this with rfl | rfl | rfl | rfl | rfl | rfl | rfl | rfl | rfl | rfl <;> decide
theorem dec_digits : ∀ (k u : Nat), u ≤ k → Lib.decFrom 0 (Lib.decDigits u) = some u := by
  intro k
  induction k with
  | zero =>
    intro u hu
    obtain rfl : u = 0 := by omega
    rw [Lib.decDigits_one (by decide)]
    decide
  | succ k ih =>
    intro u hu
    by_cases h : u < 10
    · rw [Lib.decDigits_one h]
      show Lib.decFrom 0 ([] ++ [UInt8.ofNat (48 + u)]) = _
      rw [decFrom_snoc, digit_val h]
      simp [Lib.decFrom]
    · rw [Lib.decDigits, dif_neg h, decFrom_snoc, ih (u / 10) (by omega), digit_val (Nat.mod_lt _ (by decide))]
      show some (u / 10 * 10 + u % 10) = some u
      congr 1
      omega
theorem digit_byte : ∀ (k u : Nat), u ≤ k → ∀ b ∈ Lib.decDigits u, 48 ≤ b.toNat ∧ b.toNat ≤ 57 := by
  intro k
  have h1 : ∀ i, i < 10 → 48 ≤ (UInt8.ofNat (48 + i)).toNat ∧ (UInt8.ofNat (48 + i)).toNat ≤ 57 := by decide
  induction k with
  | zero =>
    intro u hu b hb
    obtain rfl : u = 0 := by omega
    rw [Lib.decDigits_one (by decide)] at hb
    obtain rfl := List.mem_singleton.1 hb
    exact h1 0 (by decide)
  | succ k ih =>
    intro u hu b hb
    by_cases h : u < 10
    · rw [Lib.decDigits_one h] at hb
      obtain rfl := List.mem_singleton.1 hb
      exact h1 u h
    · rw [Lib.decDigits, dif_neg h] at hb
      rcases List.mem_append.1 hb with hb | hb
      · exact ih (u / 10) (by omega) b hb
      · obtain rfl := List.mem_singleton.1 hb
        exact h1 _ (Nat.mod_lt _ (by decide))
theorem dec_ne (u : Nat) : ∃ b r, Lib.decDigits u = b :: r ∧ 48 ≤ b.toNat ∧ b.toNat ≤ 57 := by
  have hb := digit_byte u u (Nat.le_refl _)
  match h : Lib.decDigits u with
  | [] =>
    have := dec_digits u u (Nat.le_refl _)
    by_cases hu : u < 10
    · rw [Lib.decDigits_one hu] at h; cases h
    · rw [Lib.decDigits, dif_neg hu] at h
      simp at h
  | b :: r =>
    rw [h] at hb
    exact ⟨b, r, rfl, hb b List.mem_cons_self⟩
theorem dec_length : ∀ (k u : Nat), u < 10 ^ (k + 1) → (Lib.decDigits u).length ≤ k + 1 := by
  intro k
  induction k with
  | zero =>
    intro u hu
    rw [Lib.decDigits_one (by omega)]
    exact Nat.le_refl _
  | succ k ih =>
    intro u hu
    by_cases h : u < 10
    · rw [Lib.decDigits_one h]
      simp
    · rw [Lib.decDigits, dif_neg h, List.length_append, List.length_singleton]
      have := ih (u / 10) (by rw [Nat.div_lt_iff_lt_mul (by decide)]; rw [Nat.pow_succ] at hu; exact hu)
      omega
theorem num_itoa {n : Nat} (h : n < 1000000000000000) : numB (itoaB (n : Int)) = some (n : Int) := by
  have hd : itoaB (n : Int) = ⟨(Lib.decDigits n).toArray⟩ := by
    unfold itoaB
    rw [Lib.itoa_nonneg]
  obtain ⟨b, r, hb, b1, b2⟩ := dec_ne n
  have hl := dec_length 14 n (by omega)
  have ha : Lib.atoiAll (Lib.decDigits n) = .ok (n : Int) := by
    rw [Lib.atoiAll_short _ (by omega)]
    have h1 := dec_digits n n (Nat.le_refl _)
    rw [hb] at h1 ⊢
    unfold Lib.atoi Lib.decNat
    have e1 : (b == 45) = false := by
      refine beq_eq_false_iff_ne.2 (fun h => ?_)
      subst h
      revert b1
      decide
    have e2 : (b == 43) = false := by
      refine beq_eq_false_iff_ne.2 (fun h => ?_)
      subst h
      revert b1
      decide
    dsimp only
    rw [e1, e2]
    simp only [Bool.false_eq_true, if_false, List.isEmpty_cons, h1]
    rfl
  unfold numB
  rw [hd]
  show (match Lib.atoiAll (Lib.decDigits n).toArray.toList with | .ok n' => _ | _ => _) = _
  rw [List.toList_toArray, ha]
  dsimp only
  rw [hd, if_pos ⟨by omega, by omega, rfl⟩]
theorem indexByte_app : ∀ (l r : List UInt8) (c : UInt8), (∀ b ∈ l, b ≠ c) → Lib.indexByte (l ++ c :: r) c = l.length
  | [], r, c, _ => by
    show Lib.indexByte (c :: r) c = _
    unfold Lib.indexByte
    rw [if_pos (beq_self_eq_true c)]
    rfl
  | b :: l, r, c, h => by
    have hb : (b == c) = false := beq_eq_false_iff_ne.2 (h b List.mem_cons_self)
    have ih := indexByte_app l r c (fun x hx => h x (List.mem_cons_of_mem _ hx))
    rw [List.cons_append]
    unfold Lib.indexByte
    rw [if_neg (by rw [hb]; decide), ih, if_neg]
    · simp
    · intro h2
      have := eq_of_beq h2
      omega
theorem indexByte_none : ∀ (l : List UInt8) (c : UInt8), (∀ b ∈ l, b ≠ c) → Lib.indexByte l c = -1
  | [], _, _ => rfl
  | b :: l, c, h => by
    have hb : (b == c) = false := beq_eq_false_iff_ne.2 (h b List.mem_cons_self)
    unfold Lib.indexByte
    rw [if_neg (by rw [hb]; decide), indexByte_none l c (fun x hx => h x (List.mem_cons_of_mem _ hx))]
    rfl
theorem bytes_ext {a b : ByteArray} (h : a.data.toList = b.data.toList) : a = b := by
  cases a; cases b
  congr 1
  exact Array.toList_inj.1 h
theorem words_one {w : ByteArray} (hw : ∀ b ∈ w.data.toList, b ≠ 32) : wordsB w = [w] := by
  have h : Lib.indexB w ⟨#[32]⟩ = -1 := by
    show Lib.index w.data.toList [32] = -1
    rw [Lib.index_one, indexByte_none _ _ hw]
  unfold wordsB
  rw [Lib.countB_miss _ _ h]
  rfl
theorem words_cons {w rest : ByteArray} (hw : ∀ b ∈ w.data.toList, b ≠ 32) : wordsB (w ++ (⟨#[32]⟩ ++ rest)) = w :: wordsB rest := by
  have hd : (w ++ (⟨#[32]⟩ ++ rest)).data.toList = w.data.toList ++ 32 :: rest.data.toList := by simp [ByteArray.data_append]
  have h : Lib.indexB (w ++ (⟨#[32]⟩ ++ rest)) ⟨#[32]⟩ = (w.size : Nat) := by
    show Lib.index (w ++ (⟨#[32]⟩ ++ rest)).data.toList [32] = _
    rw [Lib.index_one, hd, indexByte_app _ _ _ hw]
    rfl
  have e1 : (w ++ (⟨#[32]⟩ ++ rest)).extract 0 w.size = w := by
    refine bytes_ext ?_
    rw [Lib.extract_from_zero, hd, Lib.size_eq, List.take_left]
  have e2 : (w ++ (⟨#[32]⟩ ++ rest)).extract (w.size + 1) (w ++ (⟨#[32]⟩ ++ rest)).size = rest := by
    refine bytes_ext ?_
    rw [Lib.extract_to_end, hd, Lib.size_eq, ← List.drop_drop, List.drop_left]
    rfl
  unfold wordsB
  rw [Lib.countB_hit _ _ w.size (by decide) h]
  show Lib.splitB _ 0 (1 + Lib.countB ((w ++ (⟨#[32]⟩ ++ rest)).extract (w.size + 1) _) _) _ = _
  rw [Nat.add_comm, Lib.splitB_hit _ _ _ _ _ h]
  show (w ++ (⟨#[32]⟩ ++ rest)).extract 0 w.size :: Lib.splitB _ 0 _ ((w ++ (⟨#[32]⟩ ++ rest)).extract (w.size + 1) _) = _
  rw [e1, e2]
end Go.Proofs.YtfikonmhbhcejaaGreatDoor

namespace Go.Proofs.YtfikonmhbhcejaaGreatDoor
open Go.RowKit
set_option maxRecDepth 100000 in
set_option maxHeartbeats 4000000 in
theorem peek_bad (A : Option Addr) (n c : Nat) (RA : Option Addr) (rn rc : Nat) (PA : Option Addr) (pn pc : Nat) (HA : Option Addr) (hn hc : Nat) (S : St) (x k : Int) (w : World) (hR : StR w w.heap.size A n RA rn PA pn HA hn S) (hK : StK n c rn pn hn S) (hE : stE S ≠ 0) :
    Calls Tryz.prog 57 #[.agg #[.slice A n c, .slice RA rn rc, .slice PA pn pc, .slice HA hn hc], .int .i64 x, .int .i64 k] w fun e w' => Below w.heap.size w w' ∧ e = .returned (.tuple #[.int .u64 0, .int .i64 (stE S)]) := by
  have HCk := Lib.hid (fun w hR => stcheck_any A n c RA rn rc PA pn pc HA hn hc S w hR hK)
  have g1 : (stE S != 0) = true := by simpa using hE
  generalize stE S = F at *
  have hb1 := below_new w (.cells #[.slice A n c, .slice RA rn rc, .slice PA pn pc, .slice HA hn hc] 41)
  have DS := Blk.new w 41 #[.slice A n c, .slice RA rn rc, .slice PA pn pc, .slice HA hn hc]
  obtain ⟨s0, s1, s2, s3⟩ := DS.four
  go_enter Tryz.func57, Tryz.ntmps57
  go_wp2_with fail
  refine (HCk.out _ ((hR.below hb1).more hb1.size)).mono ?_
  rintro e w2 ⟨rfl, hb2⟩
  have hb02 := below_step hb1 hb2
  clear s0 s1 s2 s3
  go_wp2_with fail
  go_ret2
  exact ⟨hb02, rfl⟩
set_option maxRecDepth 100000 in
set_option maxHeartbeats 4000000 in
theorem peek_free (A : Option Addr) (n c : Nat) (RA : Option Addr) (rn rc : Nat) (PA : Option Addr) (pn pc : Nat) (HA : Option Addr) (hn hc : Nat) (S : St) (x k : Int) (w : World) (hR : StR w w.heap.size A n RA rn PA pn HA hn S) (hK : StK n c rn pn hn S) (hOK : StOk S) (hx : x ∉ pinsL S.p) :
    Calls Tryz.prog 57 #[.agg #[.slice A n c, .slice RA rn rc, .slice PA pn pc, .slice HA hn hc], .int .i64 x, .int .i64 k] w fun e w' => Below w.heap.size w w' ∧ e = .returned (.tuple #[.int .u64 0, .int .i64 8]) := by
  have HCk := Lib.hid (fun w hR => stcheck_any A n c RA rn rc PA pn pc HA hn hc S w hR hK)
  rw [stE_ok.2 hOK] at HCk
  obtain ⟨z1, z2, z3, z4⟩ := hR.lens
  have hp16 := hOK.pins.len
  have HPn := Lib.hid (fun w hr => pinned_any A n c RA rn rc PA pn pc HA hn hc S.p w hr (by omega))
  obtain ⟨m, HM⟩ : ∃ m, Hid (m = (pinsL S.p).length) := ⟨_, rfl⟩
  have hm : m ≤ 16 := by rw [HM.out]; unfold pinsL; rw [List.length_map]; exact hp16
  rw [← HM.out] at HPn
  clear hOK z1 z2 z3 z4 hp16
  have hb1 := below_new w (.cells #[.slice A n c, .slice RA rn rc, .slice PA pn pc, .slice HA hn hc] 41)
  have DS := Blk.new w 41 #[.slice A n c, .slice RA rn rc, .slice PA pn pc, .slice HA hn hc]
  obtain ⟨s0, s1, s2, s3⟩ := DS.four
  go_enter Tryz.func57, Tryz.ntmps57
  go_wp2_with fail
  refine (HCk.out _ ((hR.below hb1).more hb1.size)).mono ?_
  rintro e w2 ⟨rfl, hb2⟩
  have hb02 := below_step hb1 hb2
  have DS2 := DS.below hb2 DS.lt
  clear s0 s1 s2 s3 hb1 hb2 DS
  obtain ⟨s0, s1, s2, s3⟩ := DS2.four
  go_wp2_with fail
  refine (HPn.out _ ((hR.p.below hb02).more hb02.size)).mono ?_
  rintro e w3 ⟨A5, c5, rfl, hN, hb3⟩
  have hb03 := below_step hb02 hb3
  have DS3 := DS2.below hb3 DS2.lt
  have hrN := Reads.of_own hN
  have HCt := Lib.hid (fun b hb => contains_int A5 m c5 w3.heap.size (pinsL S.p) x b w3 hrN (by omega) hb)
  clear s0 s1 s2 s3 hN hrN
  obtain ⟨s0, s1, s2, s3⟩ := DS3.four
  go_wp2_with fail
  refine (HCt.out false (decide_eq_false hx)).mono ?_
  rintro e w4 ⟨rfl, rfl⟩
  clear hx
  go_wp2_with fail
  go_ret2
  exact ⟨hb03, rfl⟩
set_option maxRecDepth 100000 in
set_option maxHeartbeats 4000000 in
theorem peek_range (A : Option Addr) (n c : Nat) (RA : Option Addr) (rn rc : Nat) (PA : Option Addr) (pn pc : Nat) (HA : Option Addr) (hn hc : Nat) (S : St) (x k : Int) (s : Spot) (i : Nat)  (w : World) (hR : StR w w.heap.size A n RA rn PA pn HA hn S) (hK : StK n c rn pn hn S) (hOK : StOk S) (hx : x ∈ pinsL S.p) (hO : ObjAt S x s i) (hk : k < 0 ∨ s.b ≤ k) :
    Calls Tryz.prog 57 #[.agg #[.slice A n c, .slice RA rn rc, .slice PA pn pc, .slice HA hn hc], .int .i64 x, .int .i64 k] w fun e w' => Below w.heap.size w w' ∧ e = .returned (.tuple #[.int .u64 0, .int .i64 4]) := by
  have HCk := Lib.hid (fun w hR => stcheck_any A n c RA rn rc PA pn pc HA hn hc S w hR hK)
  rw [stE_ok.2 hOK] at HCk
  obtain ⟨z1, z2, z3, z4⟩ := hR.lens
  have hp16 := hOK.pins.len
  have HPn := Lib.hid (fun w hr => pinned_any A n c RA rn rc PA pn pc HA hn hc S.p w hr (by omega))
  obtain ⟨m, HM⟩ : ∃ m, Hid (m = (pinsL S.p).length) := ⟨_, rfl⟩
  have hm : m ≤ 16 := by rw [HM.out]; unfold pinsL; rw [List.length_map]; exact hp16
  rw [← HM.out] at HPn
  have HAt := Lib.hid (fun w hr => at_ok A n c S.a x i s w hr hK.cap hK.wf hOK.arena hO.ix hO.at_)
  have hr0 := hO.ok.r0
  have hbb0 := hO.ok.b0
  obtain ⟨q2, HQ2⟩ : ∃ q : Nat, Hid (q = s.b.toNat) := ⟨_, rfl⟩
  rw [← HQ2.out] at HAt
  generalize s.t = t at *
  generalize s.f = f at *
  generalize (refIx (spotsL S.a) S.a s).map (Value.int .i64) = l1 at *
  generalize bodyOf S.a s = l2 at *
  generalize s.r.toNat = q1 at *
  clear hOK z1 z2 z3 z4 hp16 hO
  have hb1 := below_new w (.cells #[.slice A n c, .slice RA rn rc, .slice PA pn pc, .slice HA hn hc] 41)
  have DS := Blk.new w 41 #[.slice A n c, .slice RA rn rc, .slice PA pn pc, .slice HA hn hc]
  obtain ⟨s0, s1, s2, s3⟩ := DS.four
  go_enter Tryz.func57, Tryz.ntmps57
  go_wp2_with fail
  refine (HCk.out _ ((hR.below hb1).more hb1.size)).mono ?_
  rintro e w2 ⟨rfl, hb2⟩
  have hb02 := below_step hb1 hb2
  have DS2 := DS.below hb2 DS.lt
  clear s0 s1 s2 s3 hb1 hb2 DS
  obtain ⟨s0, s1, s2, s3⟩ := DS2.four
  go_wp2_with fail
  refine (HPn.out _ ((hR.p.below hb02).more hb02.size)).mono ?_
  rintro e w3 ⟨A5, c5, rfl, hN, hb3⟩
  have hb03 := below_step hb02 hb3
  have DS3 := DS2.below hb3 DS2.lt
  have hrN := Reads.of_own hN
  have HCt := Lib.hid (fun b hb => contains_int A5 m c5 w3.heap.size (pinsL S.p) x b w3 hrN (by omega) hb)
  clear s0 s1 s2 s3 hN hrN
  obtain ⟨s0, s1, s2, s3⟩ := DS3.four
  go_wp2_with fail
  refine (HCt.out true (decide_eq_true hx)).mono ?_
  rintro e w4 ⟨rfl, rfl⟩
  clear hx HCt
  go_wp2_with fail
  refine (HAt.out _ ((hR.a.below hb03).more hb03.size)).mono ?_
  rintro e w5 ⟨hb5, B1, d1, B2, d2, rfl, o1, o2⟩
  have hb05 := (below_step hb03 hb5).alloc (below_step hb03 hb5).size (.cells #[.int .i64 t, .slice B1 q1 d1, .slice B2 q2 d2, .bool f] 52)
  have DG := Blk.new w5 52 #[.int .i64 t, .slice B1 q1 d1, .slice B2 q2 d2, .bool f]
  clear s0 s1 s2 s3
  obtain ⟨s0, s1, s2, s3⟩ := DG.four
  by_cases h1 : k < 0
  · have g1 : decide (k < 0) = true := decide_eq_true h1
    clear h1 hk
    go_wp2_with fail
    go_ret2
    exact ⟨hb05, rfl⟩
  · have g1 : decide (k < 0) = false := decide_eq_false h1
    obtain ⟨K, rfl⟩ := Int.eq_ofNat_of_zero_le (show 0 ≤ k by omega)
    have g2 : decide (q2 ≤ K) = true := decide_eq_true (by have := HQ2.out; omega)
    clear h1 hk
    go_wp2_with fail
    go_ret2
    exact ⟨hb05, rfl⟩
set_option maxRecDepth 100000 in
set_option maxHeartbeats 4000000 in
theorem peek_ok (A : Option Addr) (n c : Nat) (RA : Option Addr) (rn rc : Nat) (PA : Option Addr) (pn pc : Nat) (HA : Option Addr) (hn hc : Nat) (S : St) (x k : Int) (s : Spot) (i : Nat) (v : Nat) (w : World) (hR : StR w w.heap.size A n RA rn PA pn HA hn S) (hK : StK n c rn pn hn S) (hOK : StOk S) (hx : x ∈ pinsL S.p) (hO : ObjAt S x s i) (hk : 0 ≤ k ∧ k < s.b) (hv : (bodyOf S.a s)[k.toNat]? = some (v : Int)) :
    Calls Tryz.prog 57 #[.agg #[.slice A n c, .slice RA rn rc, .slice PA pn pc, .slice HA hn hc], .int .i64 x, .int .i64 k] w fun e w' => Below w.heap.size w w' ∧ e = .returned (.tuple #[.int .u64 v, .int .i64 0]) := by
  have HCk := Lib.hid (fun w hR => stcheck_any A n c RA rn rc PA pn pc HA hn hc S w hR hK)
  rw [stE_ok.2 hOK] at HCk
  obtain ⟨z1, z2, z3, z4⟩ := hR.lens
  have hp16 := hOK.pins.len
  have HPn := Lib.hid (fun w hr => pinned_any A n c RA rn rc PA pn pc HA hn hc S.p w hr (by omega))
  obtain ⟨m, HM⟩ : ∃ m, Hid (m = (pinsL S.p).length) := ⟨_, rfl⟩
  have hm : m ≤ 16 := by rw [HM.out]; unfold pinsL; rw [List.length_map]; exact hp16
  rw [← HM.out] at HPn
  have HAt := Lib.hid (fun w hr => at_ok A n c S.a x i s w hr hK.cap hK.wf hOK.arena hO.ix hO.at_)
  have hr0 := hO.ok.r0
  have hbb0 := hO.ok.b0
  obtain ⟨q2, HQ2⟩ : ∃ q : Nat, Hid (q = s.b.toNat) := ⟨_, rfl⟩
  rw [← HQ2.out] at HAt
  obtain ⟨K, rfl⟩ := Int.eq_ofNat_of_zero_le hk.1
  have g1 : decide ((K : Int) < 0) = false := decide_eq_false (by omega)
  have g2 : decide (q2 ≤ K) = false := decide_eq_false (by have := HQ2.out; omega)
  have hkq : K < q2 := by have := HQ2.out; omega
  have HV := Lib.hid hv
  rw [Int.toNat_natCast] at HV
  clear hv hk
  generalize s.t = t at *
  generalize s.f = f at *
  generalize (refIx (spotsL S.a) S.a s).map (Value.int .i64) = l1 at *
  generalize bodyOf S.a s = l2 at *
  generalize s.r.toNat = q1 at *
  clear hOK z1 z2 z3 z4 hp16 hO
  have hb1 := below_new w (.cells #[.slice A n c, .slice RA rn rc, .slice PA pn pc, .slice HA hn hc] 41)
  have DS := Blk.new w 41 #[.slice A n c, .slice RA rn rc, .slice PA pn pc, .slice HA hn hc]
  obtain ⟨s0, s1, s2, s3⟩ := DS.four
  go_enter Tryz.func57, Tryz.ntmps57
  go_wp2_with fail
  refine (HCk.out _ ((hR.below hb1).more hb1.size)).mono ?_
  rintro e w2 ⟨rfl, hb2⟩
  have hb02 := below_step hb1 hb2
  have DS2 := DS.below hb2 DS.lt
  clear s0 s1 s2 s3 hb1 hb2 DS
  obtain ⟨s0, s1, s2, s3⟩ := DS2.four
  go_wp2_with fail
  refine (HPn.out _ ((hR.p.below hb02).more hb02.size)).mono ?_
  rintro e w3 ⟨A5, c5, rfl, hN, hb3⟩
  have hb03 := below_step hb02 hb3
  have DS3 := DS2.below hb3 DS2.lt
  have hrN := Reads.of_own hN
  have HCt := Lib.hid (fun b hb => contains_int A5 m c5 w3.heap.size (pinsL S.p) x b w3 hrN (by omega) hb)
  clear s0 s1 s2 s3 hN hrN
  obtain ⟨s0, s1, s2, s3⟩ := DS3.four
  go_wp2_with fail
  refine (HCt.out true (decide_eq_true hx)).mono ?_
  rintro e w4 ⟨rfl, rfl⟩
  clear hx HCt
  go_wp2_with fail
  refine (HAt.out _ ((hR.a.below hb03).more hb03.size)).mono ?_
  rintro e w5 ⟨hb5, B1, d1, B2, d2, rfl, o1, o2⟩
  have hb05 := (below_step hb03 hb5).alloc (below_step hb03 hb5).size (.cells #[.int .i64 t, .slice B1 q1 d1, .slice B2 q2 d2, .bool f] 52)
  have DG := Blk.new w5 52 #[.int .i64 t, .slice B1 q1 d1, .slice B2 q2 d2, .bool f]
  clear s0 s1 s2 s3
  obtain ⟨s0, s1, s2, s3⟩ := DG.four
  have hr2 := (Reads.of_own o2).alloc (Nat.le_refl _) (.cells #[.int .i64 t, .slice B1 q1 d1, .slice B2 q2 d2, .bool f] 52)
  obtain ⟨ad, u, rfl, had, hu, cu⟩ := hr2.num hkq
  obtain rfl : u = v := Option.some.inj (hu.symm.trans HV.out)
  clear hu o1 o2 hr2
  go_wp2_with fail
  go_ret2
  exact ⟨hb05, rfl⟩
end Go.Proofs.YtfikonmhbhcejaaGreatDoor
