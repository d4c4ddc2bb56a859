/-
  Plain law: taking an object's room and giving it back. No program stands here.
-/
import Derived.Test.YtdlmnnibgpfdbaaJoinLaw
namespace Go.Proofs.Ytdlmnnibgpfdbaa
open Go.RowKit

theorem spots_split : ∀ (cs : List Chk) (i0 j : Nat) (s : Spot), (spotsFrom i0 cs)[j]? = some s → ∃ P c Q, cs = P ++ c :: Q ∧ s = c.spot (i0 + (chunksW P).length) ∧ P.length = j := by
  intro cs
  induction cs with
  | nil => intro i0 j s h; simp [spotsFrom] at h
  | cons c cs ih =>
    intro i0 j s h
    cases j with
    | zero =>
      simp only [spotsFrom, List.getElem?_cons_zero, Option.some.injEq] at h
      exact ⟨[], c, cs, rfl, by rw [← h]; rfl, rfl⟩
    | succ j =>
      simp only [spotsFrom, List.getElem?_cons_succ] at h
      obtain ⟨P, d, Q, rfl, rfl, hl⟩ := ih _ _ _ h
      refine ⟨c :: P, d, Q, rfl, ?_, by simp [hl]⟩
      rw [chunksW_cons, List.length_append, chkW_length, Nat.add_assoc]

theorem spotsFrom_append : ∀ (P R : List Chk) (i : Nat), spotsFrom i (P ++ R) = spotsFrom i P ++ spotsFrom (i + (chunksW P).length) R := by
  intro P
  induction P with
  | nil => intro R i; rfl
  | cons c P ih =>
    intro R i
    simp only [List.cons_append, spotsFrom]
    rw [ih, chunksW_cons, List.length_append, chkW_length, Nat.add_assoc]
theorem spotsFrom_length : ∀ (P : List Chk) (i : Nat), (spotsFrom i P).length = P.length := by
  intro P
  induction P with
  | nil => intro i; rfl
  | cons c P ih => intro i; simp only [spotsFrom, List.length_cons, ih]
theorem spots_at (P : List Chk) (c : Chk) (Q : List Chk) : (spotsFrom 0 (P ++ c :: Q))[P.length]? = some (c.spot (chunksW P).length) := by
  rw [spotsFrom_append, List.getElem?_append_right (by rw [spotsFrom_length]; exact Nat.le_refl _), spotsFrom_length, Nat.sub_self, Nat.zero_add]
  rfl

theorem starts_append : ∀ (P R : List Chk) (i : Nat), starts i (P ++ R) = starts i P ++ starts (i + (chunksW P).length) R := by
  intro P
  induction P with
  | nil => intro R i; rfl
  | cons c P ih =>
    intro R i
    simp only [List.cons_append, starts]
    rw [ih, chunksW_cons, List.length_append, chkW_length, Nat.add_assoc, List.append_assoc]
theorem starts_flush (i p : Nat) (R : List Chk) : starts i (flushC p ++ R) = starts (i + p) R := by
  unfold flushC
  by_cases h0 : p = 0
  · rw [if_pos h0, h0]; rfl
  · rw [if_neg h0]
    simp only [List.cons_append, List.nil_append, starts]
    rw [freeC_len h0]
    rfl
theorem starts_bounds : ∀ (cs : List Chk) (i : Nat) (v : Int), v ∈ starts i cs → (i : Int) + 1 ≤ v ∧ v ≤ i + (chunksW cs).length := by
  intro cs
  induction cs with
  | nil => intro i v h; cases h
  | cons c cs ih =>
    intro i v h
    have hp : 1 ≤ c.len := by unfold Chk.len; omega
    rw [chunksW_cons, List.length_append, chkW_length]
    simp only [starts] at h
    rcases List.mem_append.1 h with h | h
    · split at h
      · cases h
      · obtain rfl := List.mem_singleton.1 h
        omega
    · have := ih _ _ h
      omega

theorem spot_chunk : ∀ (cs : List Chk) (pre : List Int), (∀ c ∈ cs, c.ok) → ∀ t ∈ spotsFrom pre.length cs, ∃ c ∈ cs, refsOf (pre ++ chunksW cs) t = c.pay.take c.r.toNat := by
  intro cs
  induction cs with
  | nil => intro pre _ t ht; cases ht
  | cons c cs ih =>
    intro pre hok t ht
    have hc := hok c List.mem_cons_self
    have hE := headE_ok.1 hc.1
    have hp := hc.2
    simp only [spotsFrom, List.mem_cons] at ht
    rcases ht with rfl | ht
    · refine ⟨c, List.mem_cons_self, ?_⟩
      simp only [refsOf, Chk.spot, Int.toNat_natCast]
      rw [chunksW_cons, chkW, List.drop_append, List.drop_of_length_le (by omega), List.nil_append, show pre.length + 1 - pre.length = 1 by omega, List.cons_append, List.drop_succ_cons, List.drop_zero, List.take_append_of_le_length (by omega)]
    · have h2 := ih (pre ++ chkW c) (fun d hd => hok d (List.mem_cons_of_mem _ hd)) t (by rw [List.length_append, chkW_length]; exact ht)
      rw [List.append_assoc, ← chunksW_cons] at h2
      obtain ⟨d, hd, he⟩ := h2
      exact ⟨d, List.mem_cons_of_mem _ hd, he⟩

theorem gapsP_append : ∀ (P R R' : List Chk), (∀ i p, gapsP i p R = gapsP i p R') → ∀ i p, gapsP i p (P ++ R) = gapsP i p (P ++ R') := by
  intro P
  induction P with
  | nil => intro R R' h i p; exact h i p
  | cons c P ih =>
    intro R R' h i p
    simp only [List.cons_append, gapsP]
    split
    · exact ih R R' h _ _
    · rw [ih R R' h]
theorem joinP_append : ∀ (P R R' : List Chk), (∀ p, joinP p R = joinP p R') → ∀ p, joinP p (P ++ R) = joinP p (P ++ R') := by
  intro P
  induction P with
  | nil => intro R R' h p; exact h p
  | cons c P ih =>
    intro R R' h p
    simp only [List.cons_append, joinP]
    split
    · exact ih R R' h _
    · rw [ih R R' h]
theorem gapsP_flush (i p q : Nat) (R : List Chk) : gapsP i p (flushC q ++ R) = gapsP (i + q) (p + q) R := by
  unfold flushC
  by_cases h0 : q = 0
  · rw [if_pos h0, h0]; rfl
  · rw [if_neg h0]
    simp only [List.cons_append, List.nil_append, gapsP]
    rw [if_pos (freeC_f q), freeC_len h0]
theorem joinP_flush (p q : Nat) (R : List Chk) : joinP p (flushC q ++ R) = joinP (p + q) R := by
  unfold flushC
  by_cases h0 : q = 0
  · rw [if_pos h0, h0]; rfl
  · rw [if_neg h0]
    simp only [List.cons_append, List.nil_append, joinP]
    rw [if_pos (freeC_f q), freeC_len h0]

theorem flushC_ok {p : Nat} (h : p ≤ 256) : ∀ d ∈ flushC p, d.ok ∧ d.r = 0 := by
  intro d hd
  unfold flushC at hd
  split at hd
  · cases hd
  · rename_i h0
    obtain rfl := List.mem_singleton.1 hd
    exact ⟨freeC_ok h0 h, rfl⟩

/-- The object that is laid: its refs and its body zero. -/
def newC (r b t : Int) : Chk := ⟨r, b, t, false, List.replicate (r + b).toNat 0⟩
theorem newC_ok {r b t : Int} (h : headE r b t false = 0) : (newC r b t).ok := by
  obtain ⟨h1, h2, h3, h4, h5, h6, h7, -⟩ := headE_ok.1 h
  refine ⟨h, ?_⟩
  unfold newC
  dsimp only
  rw [List.length_replicate]
  omega
theorem newC_len {r b t : Int} (h : headE r b t false = 0) : ((newC r b t).len : Int) = 1 + r + b := by
  have := (newC_ok h).2
  unfold Chk.len
  unfold newC at *
  dsimp only at *
  omega

/-- gap.Take: the words behind it; m: the free object's length. -/
def takeL (a : List Int) (i m k : Nat) (v : Int) : List Int := layL ((fillL a i m 0).set i v) (i + k) (m - k)

structure TakeOk (a b c : List Int) (i : Nat) (r b' t : Int) (k : Nat) : Prop where
  blen : b.length = a.length
  bcheck : checkE b = 0
  spot : ∃ j : Nat, (spotsL b)[j]? = some ⟨i, r, b', t, false⟩
  refs : ∀ s, s = (⟨i, r, b', t, false⟩ : Spot) → (∀ v ∈ refsOf b s, v = 0) ∧ ∀ v ∈ bodyOf b s, v = 0
  free : ∀ s ∈ spotsL b, ((i : Int) + 1) ∉ refsOf b s
  fits : i + k ≤ a.length
  clen : c.length = a.length
  ccheck : checkE c = 0
  cgaps : gapsL (spotsL c) = gapsL (spotsL a)
  cjoin : joinL c (gapsL (spotsL c)) = joinL a (gapsL (spotsL a))

theorem take_ok {a : List Int} (h : checkE a = 0) {j : Nat} {s : Spot} (hs : (spotsL a)[j]? = some s) (hf : s.f = true) {r b t : Int} (hE : headE r b t false = 0) (hk : 1 + r + b ≤ s.long) :
    TakeOk a (takeL a s.loc.toNat s.long.toNat (1 + r + b).toNat (wordOf r b t false)) (layL (takeL a s.loc.toNat s.long.toNat (1 + r + b).toNat (wordOf r b t false)) s.loc.toNat (1 + r + b).toNat) s.loc.toNat r b t (1 + r + b).toNat := by
  obtain ⟨cs, hok, rfl, hsp, hl, hr⟩ := check_chunks h
  rw [hsp] at hs
  obtain ⟨P, c, Q, rfl, rfl, -⟩ := spots_split cs 0 j s hs
  rw [Nat.zero_add] at *
  have hcok := hok c (by simp)
  have hlong := Chk.long hcok (chunksW P).length
  rw [hlong] at hk ⊢
  have hf : c.f = true := hf
  have hcr := (headE_ok.1 hcok.1).2.2.2.2.2.2.2 hf
  have hloc : (c.spot (chunksW P).length).loc = (chunksW P).length := rfl
  rw [hloc]
  simp only [Int.toNat_natCast]
  obtain ⟨h1, h2, h3, h4, h5, h6, h7, -⟩ := headE_ok.1 hE
  obtain ⟨k, hkk⟩ : ∃ k, k = (1 + r + b).toNat := ⟨_, rfl⟩
  rw [← hkk]
  have hk0 : k ≠ 0 := by omega
  have hkm : k ≤ c.len := by omega
  have hnl : (newC r b t).len = k := by have := newC_len hE; omega
  have hpl : (r + b).toNat = k - 1 := by omega
  have hlen : (chunksW (P ++ c :: Q)).length = (chunksW P).length + (c.len + (chunksW Q).length) := by rw [chunksW_append, List.length_append, chunksW_cons, List.length_append, chkW_length]
  rw [hlen] at hl
  -- b
  have hB : takeL (chunksW (P ++ c :: Q)) (chunksW P).length c.len k (wordOf r b t false) = chunksW (P ++ newC r b t :: (flushC (c.len - k) ++ Q)) := by
    unfold takeL fillL
    have e1 : (chunksW (P ++ c :: Q)).take (chunksW P).length = chunksW P := by rw [chunksW_append]; simp
    have e2 : (chunksW (P ++ c :: Q)).drop ((chunksW P).length + c.len) = chunksW Q := by
      rw [chunksW_append, chunksW_cons, ← List.append_assoc, show (chunksW P).length + c.len = (chunksW P ++ chkW c).length by rw [List.length_append, chkW_length], List.drop_left]
    rw [e1, e2, List.append_assoc, List.set_append_right _ _ (Nat.le_refl _), Nat.sub_self]
    obtain ⟨m, hm⟩ : ∃ m, c.len = m + 1 := ⟨c.len - 1, by omega⟩
    have e3 : (List.replicate c.len (0 : Int) ++ chunksW Q).set 0 (wordOf r b t false) = chkW (newC r b t) ++ (List.replicate (c.len - k) 0 ++ chunksW Q) := by
      rw [hm, List.replicate_succ, List.cons_append, List.set_cons_zero]
      unfold chkW newC
      dsimp only
      rw [hpl, List.cons_append, ← List.append_assoc, List.replicate_append_replicate]
      congr 3
      omega
    rw [e3, ← List.append_assoc, ← List.append_assoc]
    have := layL_mid (chunksW P ++ chkW (newC r b t)) (List.replicate (c.len - k) 0) (chunksW Q)
    rw [List.length_append, chkW_length, hnl, List.length_replicate] at this
    rw [this, chunksW_append, chunksW_cons, chunksW_append]
    simp
  have hfl := flushC_ok (p := c.len - k) (by omega)
  have hfl2 := flushC_ok (p := k) (by omega)
  have hokB : ∀ d ∈ P ++ newC r b t :: (flushC (c.len - k) ++ Q), d.ok := by
    intro d hd
    rcases List.mem_append.1 hd with hd | hd
    · exact hok d (by simp [hd])
    · rcases List.mem_cons.1 hd with rfl | hd
      · exact newC_ok hE
      · rcases List.mem_append.1 hd with hd | hd
        · exact (hfl d hd).1
        · exact hok d (by simp [hd])
  have hlB : (chunksW (P ++ newC r b t :: (flushC (c.len - k) ++ Q))).length = (chunksW P).length + (c.len + (chunksW Q).length) := by
    rw [chunksW_append, List.length_append, chunksW_cons, List.length_append, chkW_length, hnl, chunksW_append, List.length_append, flushC_length]
    omega
  have hst : starts 0 (P ++ c :: Q) = starts 0 P ++ starts ((chunksW P).length + c.len) Q := by
    rw [starts_append, Nat.zero_add]
    simp only [starts]
    rw [hf, if_pos rfl, List.nil_append]
  have hstB : starts 0 (P ++ newC r b t :: (flushC (c.len - k) ++ Q)) = starts 0 P ++ (((((chunksW P).length : Nat) : Int) + 1) :: starts ((chunksW P).length + c.len) Q) := by
    rw [starts_append, Nat.zero_add]
    simp only [starts]
    rw [starts_flush, hnl, show (chunksW P).length + k + (c.len - k) = (chunksW P).length + c.len by omega]
    rfl
  have hnotin : (((chunksW P).length : Nat) : Int) + 1 ∉ starts 0 (P ++ c :: Q) := by
    rw [hst]
    intro hm
    rcases List.mem_append.1 hm with hm | hm
    · have := starts_bounds _ _ _ hm; omega
    · have := starts_bounds _ _ _ hm; omega
  have hrefB : ∀ d ∈ P ++ newC r b t :: (flushC (c.len - k) ++ Q), ∀ v ∈ d.pay.take d.r.toNat, v = 0 ∨ v ∈ starts 0 (P ++ c :: Q) := by
    intro d hd v hv
    rcases List.mem_append.1 hd with hd | hd
    · exact hr d (by simp [hd]) v hv
    · rcases List.mem_cons.1 hd with rfl | hd
      · left
        have := List.mem_of_mem_take hv
        unfold newC at this
        exact (List.mem_replicate.1 this).2
      · rcases List.mem_append.1 hd with hd | hd
        · rw [(hfl d hd).2] at hv
          simp at hv
        · exact hr d (by simp [hd]) v hv
  obtain ⟨b1, b2⟩ := chunks_spots hokB (by rw [hlB]; omega)
  have hchB : checkE (chunksW (P ++ newC r b t :: (flushC (c.len - k) ++ Q))) = 0 := by
    rw [checkE_chunks hokB (by rw [hlB]; omega)]
    intro d hd v hv
    rw [hstB]
    rcases hrefB d hd v hv with h | h
    · exact .inl h
    · right
      rw [hst] at h
      rcases List.mem_append.1 h with h | h
      · exact List.mem_append_left _ h
      · exact List.mem_append_right _ (List.mem_cons_of_mem _ h)
  -- c
  have hC : layL (chunksW (P ++ newC r b t :: (flushC (c.len - k) ++ Q))) (chunksW P).length k = chunksW (P ++ (flushC k ++ (flushC (c.len - k) ++ Q))) := by
    rw [chunksW_append, chunksW_cons, ← List.append_assoc]
    have := layL_mid (chunksW P) (chkW (newC r b t)) (chunksW (flushC (c.len - k) ++ Q))
    rw [chkW_length, hnl] at this
    rw [this]
    simp [chunksW_append]
  have hokC : ∀ d ∈ P ++ (flushC k ++ (flushC (c.len - k) ++ Q)), d.ok := by
    intro d hd
    rcases List.mem_append.1 hd with hd | hd
    · exact hok d (by simp [hd])
    · rcases List.mem_append.1 hd with hd | hd
      · exact (hfl2 d hd).1
      · rcases List.mem_append.1 hd with hd | hd
        · exact (hfl d hd).1
        · exact hok d (by simp [hd])
  have hlC : (chunksW (P ++ (flushC k ++ (flushC (c.len - k) ++ Q)))).length = (chunksW P).length + (c.len + (chunksW Q).length) := by
    rw [chunksW_append, List.length_append, chunksW_append, List.length_append, flushC_length, chunksW_append, List.length_append, flushC_length]
    omega
  have hstC : starts 0 (P ++ (flushC k ++ (flushC (c.len - k) ++ Q))) = starts 0 (P ++ c :: Q) := by
    rw [hst, starts_append, Nat.zero_add, starts_flush, starts_flush, show (chunksW P).length + k + (c.len - k) = (chunksW P).length + c.len by omega]
  have hchC : checkE (chunksW (P ++ (flushC k ++ (flushC (c.len - k) ++ Q)))) = 0 := by
    rw [checkE_chunks hokC (by rw [hlC]; omega)]
    intro d hd v hv
    rw [hstC]
    rcases List.mem_append.1 hd with hd | hd
    · exact hr d (by simp [hd]) v hv
    · rcases List.mem_append.1 hd with hd | hd
      · rw [(hfl2 d hd).2] at hv
        simp at hv
      · rcases List.mem_append.1 hd with hd | hd
        · rw [(hfl d hd).2] at hv
          simp at hv
        · exact hr d (by simp [hd]) v hv
  obtain ⟨c1, c2⟩ := chunks_spots hokC (by rw [hlC]; omega)
  have hgC : gapsL (spotsL (chunksW (P ++ (flushC k ++ (flushC (c.len - k) ++ Q))))) = gapsL (spotsL (chunksW (P ++ c :: Q))) := by
    rw [c2, hsp, gapsL_chunks hokC, gapsL_chunks hok]
    refine gapsP_append P _ _ (fun i p => ?_) 0 0
    rw [gapsP_flush, gapsP_flush]
    simp only [gapsP]
    rw [hf, if_pos rfl]
    congr 1 <;> omega
  have hjC : joinL (chunksW (P ++ (flushC k ++ (flushC (c.len - k) ++ Q)))) (gapsL (spotsL (chunksW (P ++ (flushC k ++ (flushC (c.len - k) ++ Q)))))) = joinL (chunksW (P ++ c :: Q)) (gapsL (spotsL (chunksW (P ++ c :: Q)))) := by
    rw [c2, hsp, gapsL_chunks hokC, gapsL_chunks hok]
    have j1 := joinL_chunks (P ++ (flushC k ++ (flushC (c.len - k) ++ Q))) [] []
    have j2 := joinL_chunks (P ++ c :: Q) [] []
    simp only [List.nil_append, List.length_nil, Nat.add_zero] at j1 j2
    rw [j1, j2]
    congr 1
    refine joinP_append P _ _ (fun p => ?_) 0
    rw [joinP_flush, joinP_flush]
    simp only [joinP]
    rw [hf, if_pos rfl]
    congr 1
    omega
  rw [hB, hC]
  refine ⟨by rw [hlB, hlen], hchB, ⟨P.length, ?_⟩, ?_, ?_, by rw [hlen]; omega, by rw [hlC, hlen], hchC, hgC, hjC⟩
  · rw [b2, spots_at]
    rfl
  · rintro s rfl
    have hx : chunksW (P ++ newC r b t :: (flushC (c.len - k) ++ Q)) = chunksW P ++ (wordOf r b t false :: (List.replicate (k - 1) 0 ++ chunksW (flushC (c.len - k) ++ Q))) := by
      rw [chunksW_append, chunksW_cons]
      unfold chkW newC
      dsimp only
      rw [hpl]
      rfl
    have hd1 : ∀ q : Nat, (chunksW (P ++ newC r b t :: (flushC (c.len - k) ++ Q))).drop ((chunksW P).length + 1 + q) = (List.replicate (k - 1) (0 : Int) ++ chunksW (flushC (c.len - k) ++ Q)).drop q := by
      intro q
      rw [hx, List.drop_append, List.drop_of_length_le (by omega), List.nil_append, show (chunksW P).length + 1 + q - (chunksW P).length = q + 1 by omega, List.drop_succ_cons]
    constructor
    · intro v hv
      unfold refsOf at hv
      dsimp only at hv
      have := hd1 0
      rw [Nat.add_zero] at this
      rw [Int.toNat_natCast, this, List.drop_zero, List.take_append_of_le_length (by rw [List.length_replicate]; omega)] at hv
      exact (List.mem_replicate.1 (List.mem_of_mem_take hv)).2
    · intro v hv
      unfold bodyOf at hv
      dsimp only at hv
      rw [Int.toNat_natCast, hd1, List.drop_append_of_le_length (by rw [List.length_replicate]; omega), List.take_append_of_le_length (by rw [List.length_drop, List.length_replicate]; omega)] at hv
      exact (List.mem_replicate.1 (List.mem_of_mem_drop (List.mem_of_mem_take hv))).2
  · intro s hs hm
    rw [b2] at hs
    obtain ⟨d, hd, he⟩ := spot_chunk _ [] hokB s hs
    rw [List.nil_append] at he
    rw [he] at hm
    rcases hrefB d hd _ hm with h | h
    · omega
    · exact hnotin h
end Go.Proofs.Ytdlmnnibgpfdbaa
