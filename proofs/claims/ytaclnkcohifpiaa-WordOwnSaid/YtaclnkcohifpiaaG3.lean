/-
  Texts joined: TurnsLaw IndexSpot2 Contains GapTake GapGive OwnU64 WordsTrue Slices.
-/
import Derived.Test.YtaclnkcohifpiaaRows
import Derived.Test.YtaclnkcohifpiaaG0
import Derived.Test.YtaclnkcohifpiaaG1
import Derived.Test.YtaclnkcohifpiaaG2
namespace Go.Proofs.Ytaclnkcohifpiaa
open Go.RowKit
theorem spots_split : ∀ (cs : List Chk) (i0 j : Nat) (s : Spot), (spotsFrom i0 cs)[j]? = some s → ∃ P c Q, cs = P ++ c :: Q ∧ s = c.spot (i0 + (chunksW P).length) ∧ P.length = j := by
  intro cs
  induction cs with
  | nil => intro i0 j s h; simp [spotsFrom] at h
  | cons c cs ih =>
    intro i0 j s h
    cases j with
    | zero =>
      simp only [spotsFrom, List.getElem?_cons_zero, Option.some.injEq] at h
      exact ⟨[], c, cs, rfl, by rw [← h]; rfl, rfl⟩
    | succ j =>
      simp only [spotsFrom, List.getElem?_cons_succ] at h
      obtain ⟨P, d, Q, rfl, rfl, hl⟩ := ih _ _ _ h
      refine ⟨c :: P, d, Q, rfl, ?_, by simp [hl]⟩
      rw [chunksW_cons, List.length_append, chkW_length, Nat.add_assoc]
theorem spotsFrom_append : ∀ (P R : List Chk) (i : Nat), spotsFrom i (P ++ R) = spotsFrom i P ++ spotsFrom (i + (chunksW P).length) R := by
  intro P
  induction P with
  | nil => intro R i; rfl
  | cons c P ih =>
    intro R i
    simp only [List.cons_append, spotsFrom]
    rw [ih, chunksW_cons, List.length_append, chkW_length, Nat.add_assoc]
theorem spotsFrom_length : ∀ (P : List Chk) (i : Nat), (spotsFrom i P).length = P.length := by
  intro P
  induction P with
  | nil => intro i; rfl
  | cons c P ih => intro i; simp only [spotsFrom, List.length_cons, ih]
theorem spots_at (P : List Chk) (c : Chk) (Q : List Chk) : (spotsFrom 0 (P ++ c :: Q))[P.length]? = some (c.spot (chunksW P).length) := by
  rw [spotsFrom_append, List.getElem?_append_right (by rw [spotsFrom_length]; exact Nat.le_refl _), spotsFrom_length, Nat.sub_self, Nat.zero_add]
  rfl
theorem starts_append : ∀ (P R : List Chk) (i : Nat), starts i (P ++ R) = starts i P ++ starts (i + (chunksW P).length) R := by
  intro P
  induction P with
  | nil => intro R i; rfl
  | cons c P ih =>
    intro R i
    simp only [List.cons_append, starts]
    rw [ih, chunksW_cons, List.length_append, chkW_length, Nat.add_assoc, List.append_assoc]
theorem starts_flush (i p : Nat) (R : List Chk) : starts i (flushC p ++ R) = starts (i + p) R := by
  unfold flushC
  by_cases h0 : p = 0
  · rw [if_pos h0, h0]; rfl
  · rw [if_neg h0]
    simp only [List.cons_append, List.nil_append, starts]
    rw [freeC_len h0]
    rfl
theorem starts_bounds : ∀ (cs : List Chk) (i : Nat) (v : Int), v ∈ starts i cs → (i : Int) + 1 ≤ v ∧ v ≤ i + (chunksW cs).length := by
  intro cs
  induction cs with
  | nil => intro i v h; cases h
  | cons c cs ih =>
    intro i v h
    have hp : 1 ≤ c.len := by unfold Chk.len; omega
    rw [chunksW_cons, List.length_append, chkW_length]
    simp only [starts] at h
    rcases List.mem_append.1 h with h | h
    · split at h
      · cases h
      · obtain rfl := List.mem_singleton.1 h
        omega
    · have := ih _ _ h
      omega
theorem spot_chunk : ∀ (cs : List Chk) (pre : List Int), (∀ c ∈ cs, c.ok) → ∀ t ∈ spotsFrom pre.length cs, ∃ c ∈ cs, refsOf (pre ++ chunksW cs) t = c.pay.take c.r.toNat := by
  intro cs
  induction cs with
  | nil => intro pre _ t ht; cases ht
  | cons c cs ih =>
    intro pre hok t ht
    have hc := hok c List.mem_cons_self
    have hE := headE_ok.1 hc.1
    have hp := hc.2
    simp only [spotsFrom, List.mem_cons] at ht
    rcases ht with rfl | ht
    · refine ⟨c, List.mem_cons_self, ?_⟩
      simp only [refsOf, Chk.spot, Int.toNat_natCast]
      rw [chunksW_cons, chkW, List.drop_append, List.drop_of_length_le (by omega), List.nil_append, show pre.length + 1 - pre.length = 1 by omega, List.cons_append, List.drop_succ_cons, List.drop_zero, List.take_append_of_le_length (by omega)]
    · have h2 := ih (pre ++ chkW c) (fun d hd => hok d (List.mem_cons_of_mem _ hd)) t (by rw [List.length_append, chkW_length]; exact ht)
      rw [List.append_assoc, ← chunksW_cons] at h2
      obtain ⟨d, hd, he⟩ := h2
      exact ⟨d, List.mem_cons_of_mem _ hd, he⟩
theorem gapsP_append : ∀ (P R R' : List Chk), (∀ i p, gapsP i p R = gapsP i p R') → ∀ i p, gapsP i p (P ++ R) = gapsP i p (P ++ R') := by
  intro P
  induction P with
  | nil => intro R R' h i p; exact h i p
  | cons c P ih =>
    intro R R' h i p
    simp only [List.cons_append, gapsP]
    split
    · exact ih R R' h _ _
    · rw [ih R R' h]
theorem joinP_append : ∀ (P R R' : List Chk), (∀ p, joinP p R = joinP p R') → ∀ p, joinP p (P ++ R) = joinP p (P ++ R') := by
  intro P
  induction P with
  | nil => intro R R' h p; exact h p
  | cons c P ih =>
    intro R R' h p
    simp only [List.cons_append, joinP]
    split
    · exact ih R R' h _
    · rw [ih R R' h]
theorem gapsP_flush (i p q : Nat) (R : List Chk) : gapsP i p (flushC q ++ R) = gapsP (i + q) (p + q) R := by
  unfold flushC
  by_cases h0 : q = 0
  · rw [if_pos h0, h0]; rfl
  · rw [if_neg h0]
    simp only [List.cons_append, List.nil_append, gapsP]
    rw [if_pos (freeC_f q), freeC_len h0]
theorem joinP_flush (p q : Nat) (R : List Chk) : joinP p (flushC q ++ R) = joinP (p + q) R := by
  unfold flushC
  by_cases h0 : q = 0
  · rw [if_pos h0, h0]; rfl
  · rw [if_neg h0]
    simp only [List.cons_append, List.nil_append, joinP]
    rw [if_pos (freeC_f q), freeC_len h0]
theorem flushC_ok {p : Nat} (h : p ≤ 256) : ∀ d ∈ flushC p, d.ok ∧ d.r = 0 := by
  intro d hd
  unfold flushC at hd
  split at hd
  · cases hd
  · rename_i h0
    obtain rfl := List.mem_singleton.1 hd
    exact ⟨freeC_ok h0 h, rfl⟩
def newC (r b t : Int) : Chk := ⟨r, b, t, false, List.replicate (r + b).toNat 0⟩
theorem newC_ok {r b t : Int} (h : headE r b t false = 0) : (newC r b t).ok := by
  obtain ⟨h1, h2, h3, h4, h5, h6, h7, -⟩ := headE_ok.1 h
  refine ⟨h, ?_⟩
  unfold newC
  dsimp only
  rw [List.length_replicate]
  omega
theorem newC_len {r b t : Int} (h : headE r b t false = 0) : ((newC r b t).len : Int) = 1 + r + b := by
  have := (newC_ok h).2
  unfold Chk.len
  unfold newC at *
  dsimp only at *
  omega
def takeL (a : List Int) (i m k : Nat) (v : Int) : List Int := layL ((fillL a i m 0).set i v) (i + k) (m - k)
structure TakeOk (a b c : List Int) (i : Nat) (r b' t : Int) (k : Nat) : Prop where
  blen : b.length = a.length
  bcheck : checkE b = 0
  spot : ∃ j : Nat, (spotsL b)[j]? = some ⟨i, r, b', t, false⟩
  refs : ∀ s, s = (⟨i, r, b', t, false⟩ : Spot) → (∀ v ∈ refsOf b s, v = 0) ∧ ∀ v ∈ bodyOf b s, v = 0
  free : ∀ s ∈ spotsL b, ((i : Int) + 1) ∉ refsOf b s
  fits : i + k ≤ a.length
  clen : c.length = a.length
  ccheck : checkE c = 0
  cgaps : gapsL (spotsL c) = gapsL (spotsL a)
  cjoin : joinL c (gapsL (spotsL c)) = joinL a (gapsL (spotsL a))
theorem take_ok {a : List Int} (h : checkE a = 0) {j : Nat} {s : Spot} (hs : (spotsL a)[j]? = some s) (hf : s.f = true) {r b t : Int} (hE : headE r b t false = 0) (hk : 1 + r + b ≤ s.long) :
    TakeOk a (takeL a s.loc.toNat s.long.toNat (1 + r + b).toNat (wordOf r b t false)) (layL (takeL a s.loc.toNat s.long.toNat (1 + r + b).toNat (wordOf r b t false)) s.loc.toNat (1 + r + b).toNat) s.loc.toNat r b t (1 + r + b).toNat := by
  obtain ⟨cs, hok, rfl, hsp, hl, hr⟩ := check_chunks h
  rw [hsp] at hs
  obtain ⟨P, c, Q, rfl, rfl, -⟩ := spots_split cs 0 j s hs
  rw [Nat.zero_add] at *
  have hcok := hok c (by simp)
  have hlong := Chk.long hcok (chunksW P).length
  rw [hlong] at hk ⊢
  have hf : c.f = true := hf
  have hcr := (headE_ok.1 hcok.1).2.2.2.2.2.2.2 hf
  have hloc : (c.spot (chunksW P).length).loc = (chunksW P).length := rfl
  rw [hloc]
  simp only [Int.toNat_natCast]
  obtain ⟨h1, h2, h3, h4, h5, h6, h7, -⟩ := headE_ok.1 hE
  obtain ⟨k, hkk⟩ : ∃ k, k = (1 + r + b).toNat := ⟨_, rfl⟩
  rw [← hkk]
  have hk0 : k ≠ 0 := by omega
  have hkm : k ≤ c.len := by omega
  have hnl : (newC r b t).len = k := by have := newC_len hE; omega
  have hpl : (r + b).toNat = k - 1 := by omega
  have hlen : (chunksW (P ++ c :: Q)).length = (chunksW P).length + (c.len + (chunksW Q).length) := by rw [chunksW_append, List.length_append, chunksW_cons, List.length_append, chkW_length]
  rw [hlen] at hl
  -- b
  have hB : takeL (chunksW (P ++ c :: Q)) (chunksW P).length c.len k (wordOf r b t false) = chunksW (P ++ newC r b t :: (flushC (c.len - k) ++ Q)) := by
    unfold takeL fillL
    have e1 : (chunksW (P ++ c :: Q)).take (chunksW P).length = chunksW P := by rw [chunksW_append]; simp
    have e2 : (chunksW (P ++ c :: Q)).drop ((chunksW P).length + c.len) = chunksW Q := by
      rw [chunksW_append, chunksW_cons, ← List.append_assoc, show (chunksW P).length + c.len = (chunksW P ++ chkW c).length by rw [List.length_append, chkW_length], List.drop_left]
    rw [e1, e2, List.append_assoc, List.set_append_right _ _ (Nat.le_refl _), Nat.sub_self]
    obtain ⟨m, hm⟩ : ∃ m, c.len = m + 1 := ⟨c.len - 1, by omega⟩
    have e3 : (List.replicate c.len (0 : Int) ++ chunksW Q).set 0 (wordOf r b t false) = chkW (newC r b t) ++ (List.replicate (c.len - k) 0 ++ chunksW Q) := by
      rw [hm, List.replicate_succ, List.cons_append, List.set_cons_zero]
      unfold chkW newC
      dsimp only
      rw [hpl, List.cons_append, ← List.append_assoc, List.replicate_append_replicate]
      congr 3
      omega
    rw [e3, ← List.append_assoc, ← List.append_assoc]
    have := layL_mid (chunksW P ++ chkW (newC r b t)) (List.replicate (c.len - k) 0) (chunksW Q)
    rw [List.length_append, chkW_length, hnl, List.length_replicate] at this
    rw [this, chunksW_append, chunksW_cons, chunksW_append]
    simp
  have hfl := flushC_ok (p := c.len - k) (by omega)
  have hfl2 := flushC_ok (p := k) (by omega)
  have hokB : ∀ d ∈ P ++ newC r b t :: (flushC (c.len - k) ++ Q), d.ok := by
    intro d hd
    rcases List.mem_append.1 hd with hd | hd
    · exact hok d (by simp [hd])
    · rcases List.mem_cons.1 hd with rfl | hd
      · exact newC_ok hE
      · rcases List.mem_append.1 hd with hd | hd
        · exact (hfl d hd).1
        · exact hok d (by simp [hd])
  have hlB : (chunksW (P ++ newC r b t :: (flushC (c.len - k) ++ Q))).length = (chunksW P).length + (c.len + (chunksW Q).length) := by
    rw [chunksW_append, List.length_append, chunksW_cons, List.length_append, chkW_length, hnl, chunksW_append, List.length_append, flushC_length]
    omega
  have hst : starts 0 (P ++ c :: Q) = starts 0 P ++ starts ((chunksW P).length + c.len) Q := by
    rw [starts_append, Nat.zero_add]
    simp only [starts]
    rw [hf, if_pos rfl, List.nil_append]
  have hstB : starts 0 (P ++ newC r b t :: (flushC (c.len - k) ++ Q)) = starts 0 P ++ (((((chunksW P).length : Nat) : Int) + 1) :: starts ((chunksW P).length + c.len) Q) := by
    rw [starts_append, Nat.zero_add]
    simp only [starts]
    rw [starts_flush, hnl, show (chunksW P).length + k + (c.len - k) = (chunksW P).length + c.len by omega]
    rfl
  have hnotin : (((chunksW P).length : Nat) : Int) + 1 ∉ starts 0 (P ++ c :: Q) := by
    rw [hst]
    intro hm
    rcases List.mem_append.1 hm with hm | hm
    · have := starts_bounds _ _ _ hm; omega
    · have := starts_bounds _ _ _ hm; omega
  have hrefB : ∀ d ∈ P ++ newC r b t :: (flushC (c.len - k) ++ Q), ∀ v ∈ d.pay.take d.r.toNat, v = 0 ∨ v ∈ starts 0 (P ++ c :: Q) := by
    intro d hd v hv
    rcases List.mem_append.1 hd with hd | hd
    · exact hr d (by simp [hd]) v hv
    · rcases List.mem_cons.1 hd with rfl | hd
      · left
        have := List.mem_of_mem_take hv
        unfold newC at this
        exact (List.mem_replicate.1 this).2
      · rcases List.mem_append.1 hd with hd | hd
        · rw [(hfl d hd).2] at hv
          simp at hv
        · exact hr d (by simp [hd]) v hv
  obtain ⟨b1, b2⟩ := chunks_spots hokB (by rw [hlB]; omega)
  have hchB : checkE (chunksW (P ++ newC r b t :: (flushC (c.len - k) ++ Q))) = 0 := by
    rw [checkE_chunks hokB (by rw [hlB]; omega)]
    intro d hd v hv
    rw [hstB]
    rcases hrefB d hd v hv with h | h
    · exact .inl h
    · right
      rw [hst] at h
      rcases List.mem_append.1 h with h | h
      · exact List.mem_append_left _ h
      · exact List.mem_append_right _ (List.mem_cons_of_mem _ h)
  -- c
  have hC : layL (chunksW (P ++ newC r b t :: (flushC (c.len - k) ++ Q))) (chunksW P).length k = chunksW (P ++ (flushC k ++ (flushC (c.len - k) ++ Q))) := by
    rw [chunksW_append, chunksW_cons, ← List.append_assoc]
    have := layL_mid (chunksW P) (chkW (newC r b t)) (chunksW (flushC (c.len - k) ++ Q))
    rw [chkW_length, hnl] at this
    rw [this]
    simp [chunksW_append]
  have hokC : ∀ d ∈ P ++ (flushC k ++ (flushC (c.len - k) ++ Q)), d.ok := by
    intro d hd
    rcases List.mem_append.1 hd with hd | hd
    · exact hok d (by simp [hd])
    · rcases List.mem_append.1 hd with hd | hd
      · exact (hfl2 d hd).1
      · rcases List.mem_append.1 hd with hd | hd
        · exact (hfl d hd).1
        · exact hok d (by simp [hd])
  have hlC : (chunksW (P ++ (flushC k ++ (flushC (c.len - k) ++ Q)))).length = (chunksW P).length + (c.len + (chunksW Q).length) := by
    rw [chunksW_append, List.length_append, chunksW_append, List.length_append, flushC_length, chunksW_append, List.length_append, flushC_length]
    omega
  have hstC : starts 0 (P ++ (flushC k ++ (flushC (c.len - k) ++ Q))) = starts 0 (P ++ c :: Q) := by
    rw [hst, starts_append, Nat.zero_add, starts_flush, starts_flush, show (chunksW P).length + k + (c.len - k) = (chunksW P).length + c.len by omega]
  have hchC : checkE (chunksW (P ++ (flushC k ++ (flushC (c.len - k) ++ Q)))) = 0 := by
    rw [checkE_chunks hokC (by rw [hlC]; omega)]
    intro d hd v hv
    rw [hstC]
    rcases List.mem_append.1 hd with hd | hd
    · exact hr d (by simp [hd]) v hv
    · rcases List.mem_append.1 hd with hd | hd
      · rw [(hfl2 d hd).2] at hv
        simp at hv
      · rcases List.mem_append.1 hd with hd | hd
        · rw [(hfl d hd).2] at hv
          simp at hv
        · exact hr d (by simp [hd]) v hv
  obtain ⟨c1, c2⟩ := chunks_spots hokC (by rw [hlC]; omega)
  have hgC : gapsL (spotsL (chunksW (P ++ (flushC k ++ (flushC (c.len - k) ++ Q))))) = gapsL (spotsL (chunksW (P ++ c :: Q))) := by
    rw [c2, hsp, gapsL_chunks hokC, gapsL_chunks hok]
    refine gapsP_append P _ _ (fun i p => ?_) 0 0
    rw [gapsP_flush, gapsP_flush]
    simp only [gapsP]
    rw [hf, if_pos rfl]
    congr 1 <;> omega
  have hjC : joinL (chunksW (P ++ (flushC k ++ (flushC (c.len - k) ++ Q)))) (gapsL (spotsL (chunksW (P ++ (flushC k ++ (flushC (c.len - k) ++ Q)))))) = joinL (chunksW (P ++ c :: Q)) (gapsL (spotsL (chunksW (P ++ c :: Q)))) := by
    rw [c2, hsp, gapsL_chunks hokC, gapsL_chunks hok]
    have j1 := joinL_chunks (P ++ (flushC k ++ (flushC (c.len - k) ++ Q))) [] []
    have j2 := joinL_chunks (P ++ c :: Q) [] []
    simp only [List.nil_append, List.length_nil, Nat.add_zero] at j1 j2
    rw [j1, j2]
    congr 1
    refine joinP_append P _ _ (fun p => ?_) 0
    rw [joinP_flush, joinP_flush]
    simp only [joinP]
    rw [hf, if_pos rfl]
    congr 1
    omega
  rw [hB, hC]
  refine ⟨by rw [hlB, hlen], hchB, ⟨P.length, ?_⟩, ?_, ?_, by rw [hlen]; omega, by rw [hlC, hlen], hchC, hgC, hjC⟩
  · rw [b2, spots_at]
    rfl
  · rintro s rfl
    have hx : chunksW (P ++ newC r b t :: (flushC (c.len - k) ++ Q)) = chunksW P ++ (wordOf r b t false :: (List.replicate (k - 1) 0 ++ chunksW (flushC (c.len - k) ++ Q))) := by
      rw [chunksW_append, chunksW_cons]
      unfold chkW newC
      dsimp only
      rw [hpl]
      rfl
    have hd1 : ∀ q : Nat, (chunksW (P ++ newC r b t :: (flushC (c.len - k) ++ Q))).drop ((chunksW P).length + 1 + q) = (List.replicate (k - 1) (0 : Int) ++ chunksW (flushC (c.len - k) ++ Q)).drop q := by
      intro q
      rw [hx, List.drop_append, List.drop_of_length_le (by omega), List.nil_append, show (chunksW P).length + 1 + q - (chunksW P).length = q + 1 by omega, List.drop_succ_cons]
    constructor
    · intro v hv
      unfold refsOf at hv
      dsimp only at hv
      have := hd1 0
      rw [Nat.add_zero] at this
      rw [Int.toNat_natCast, this, List.drop_zero, List.take_append_of_le_length (by rw [List.length_replicate]; omega)] at hv
      exact (List.mem_replicate.1 (List.mem_of_mem_take hv)).2
    · intro v hv
      unfold bodyOf at hv
      dsimp only at hv
      rw [Int.toNat_natCast, hd1, List.drop_append_of_le_length (by rw [List.length_replicate]; omega), List.take_append_of_le_length (by rw [List.length_drop, List.length_replicate]; omega)] at hv
      exact (List.mem_replicate.1 (List.mem_of_mem_drop (List.mem_of_mem_take hv))).2
  · intro s hs hm
    rw [b2] at hs
    obtain ⟨d, hd, he⟩ := spot_chunk _ [] hokB s hs
    rw [List.nil_append] at he
    rw [he] at hm
    rcases hrefB d hd _ hm with h | h
    · omega
    · exact hnotin h
end Go.Proofs.Ytaclnkcohifpiaa

namespace Go.Proofs.Ytaclnkcohifpiaa
open Go.RowKit
set_option maxRecDepth 100000 in
set_option maxHeartbeats 1000000 in
theorem indexSpot2_any (F : Nat) (cap cap2 : Value) (A : Option Addr) (n c B : Nat) (l : List Spot) (p : Spot → Bool) (w : World) (hr : Reads w B 5 A n (spotsC l)) (hB : B ≤ w.heap.size) (hn : n ≤ 1000000) (hF : Plain Try.prog F)
    (HC : ∀ (w' : World) (s : Spot), Below w.heap.size w w' → s ∈ l → Calls Try.prog F #[.agg #[.int .i64 s.loc, .int .i64 s.r, .int .i64 s.b, .int .i64 s.t, .bool s.f], cap, cap2] w' fun e w'' => e = .returned (.bool (p s)) ∧ Below w'.heap.size w' w'') :
    Calls Try.prog 42 #[.slice A n c, .func (.func F) #[] #[cap, cap2]] w fun e w' => e = .returned (.int .i64 (ixOf p l)) ∧ Below w.heap.size w w' := by
  have hll : l.length = n := by have := hr.1; rw [spotsC_length] at this; omega
  have HL := Lib.hid hll
  have HC := Lib.hid HC
  have hcf := fun (x : Value) (w : World) => hF #[x, cap, cap2] w
  clear hll hF
  go_enter Try.func42, Try.ntmps42
  go_wp2
  go_loopw [5, 8] (fun _ i wr => ∃ j : Nat, j ≤ n ∧ i = .int .i64 j ∧ Below w.heap.size w wr ∧ Hid (∀ x ∈ l.take j, p x = false)) (fun _ i _ => n - (intOf i).toNat)
  case atStart => exact ⟨0, Nat.zero_le _, rfl, Below.refl _ _, by intro x hx; simp at hx⟩
  case round =>
    obtain ⟨j, hj, rfl, hb, HD⟩ := hrel
    by_cases hlt : j < n
    · obtain ⟨ad, s, rfl, had, hs, c0, c1, c2, c3, c4⟩ := (hr.below (hb.mono hB)).spot hlt
      have HS := Lib.hid hs
      have HQ := Lib.hid (HC.out wr s hb (List.mem_of_getElem? hs))
      clear hs
      cases hp : p s
      · have HF := Lib.hid hp
        clear hp
        go_wp2_with fail
        refine HQ.out.mono ?_
        rw [HF.out]
        rintro e w1 ⟨rfl, hb1⟩
        go_wp2
        go_roundw
        case rel => exact ⟨j + 1, by omega, by go_num, hb.trans (hb1.mono hb.size), fun x hx => by
          rcases take_succ_mem HS.out x hx with h | rfl
          · exact HD.out x h
          · exact HF.out⟩
        case measure => simp [intOf]; omega
      · have HF := Lib.hid hp
        clear hp
        go_wp2_with fail
        refine HQ.out.mono ?_
        rw [HF.out]
        rintro e w1 ⟨rfl, hb1⟩
        go_wp2
        go_ret
        exact ⟨ret_int (ixOf_some HS.out HF.out HD.out).symm, hb.trans (hb1.mono hb.size)⟩
    · go_wp2
      go_ret
      exact ⟨ret_int (ixOf_none (by have := HD.out; rwa [List.take_of_length_le (by rw [HL.out]; omega)] at this)).symm, hb⟩
end Go.Proofs.Ytaclnkcohifpiaa

namespace Go.Proofs.Ytaclnkcohifpiaa
open Go.RowKit
set_option maxHeartbeats 400000 in
theorem index_u64 (A : Option Addr) (n c B : Nat) (xs : List Int) (v : Int) (w : World) (hr : Reads w B 1 A n (xs.map (.int .u64))) (hn : n ≤ 1000000000000000000) :
    Calls Try.prog 44 #[.slice A n c, .int .u64 v] w fun e w' => e = .returned (.int .i64 (ixOf (fun x => v == x) xs)) ∧ w = w' := by
  have hxl : xs.length = n := by have := hr.1; simpa using this
  have HX := Lib.hid hxl
  clear hxl
  go_enter Try.func44, Try.ntmps44
  go_wp2
  go_loop [8] (fun i => ∃ j : Nat, j ≤ n ∧ i = .int .i64 j ∧ ∀ x ∈ xs.take j, (v == x) = false) (fun i => n - (intOf i).toNat)
  case atStart => exact ⟨0, Nat.zero_le _, rfl, by simp⟩
  case round =>
    obtain ⟨j, hj, rfl, ht⟩ := hrel
    have HT := Lib.hid ht
    clear ht
    by_cases hlt : j < n
    · obtain ⟨ad, x, rfl, _, hx, hc⟩ := hr.num hlt
      have HS := Lib.hid hx
      clear hx
      cases he : (v == x)
      · have HE := Lib.hid he
        go_wp2
        go_round
        case rel => exact ⟨j + 1, by omega, by go_num, fun y hy => by
          rcases take_succ_mem HS.out y hy with h | rfl
          · exact HT.out y h
          · exact HE.out⟩
        case measure => simp [intOf]; omega
      · have HE := Lib.hid he
        go_wp2
        go_ret
        exact ⟨ret_int (ixOf_some HS.out HE.out HT.out).symm, rfl⟩
    · go_wp2
      go_ret
      exact ⟨ret_int (ixOf_none (by have := HT.out; rwa [List.take_of_length_le (by rw [HX.out]; omega)] at this)).symm, rfl⟩
theorem contains_u64 (A : Option Addr) (n c B : Nat) (xs : List Int) (v : Int) (b : Bool) (w : World) (hr : Reads w B 1 A n (xs.map (.int .u64))) (hn : n ≤ 1000000000000000000) (hb : decide (v ∈ xs) = b) :
    Calls Try.prog 28 #[.slice A n c, .int .u64 v] w fun e w' => e = .returned (.bool b) ∧ w = w' := by
  have H := index_u64 A n c B xs v w hr hn
  have hq := ixOf_nonneg (fun x => v == x) xs
  rw [any_eq_mem, hb] at hq
  generalize ixOf (fun x => v == x) xs = i at *
  have HH := Lib.hid H
  have HQ := Lib.hid hq
  clear H hq hb
  go_enter Try.func28, Try.ntmps28
  go_wp2_with (go_at_call 44; refine HH.out.mono ?_; rintro e w' ⟨rfl, rfl⟩)
  go_ret
  exact ⟨by rw [← HQ.out]; rfl, rfl⟩
end Go.Proofs.Ytaclnkcohifpiaa

namespace Go.Proofs.Ytaclnkcohifpiaa
open Go.RowKit
def pF (x : Int) (fr : Bool) (s : Spot) : Bool := (s.loc == x) && (s.f == fr)
set_option maxHeartbeats 400000 in
theorem findC_any (g1 g2 : Nat) (x : Int) (fr : Bool) (s : Spot) (w : World) (hg1 : g1 < w.heap.size) (hg2 : g2 < w.heap.size) (hc1 : w.cell? ⟨g1, 0, none⟩ = some (.int .i64 x)) (hc2 : w.cell? ⟨g2, 0, none⟩ = some (.bool fr)) :
    Calls Try.prog 43 #[.agg #[.int .i64 s.loc, .int .i64 s.r, .int .i64 s.b, .int .i64 s.t, .bool s.f], .pointer (some ⟨g1, 0, none⟩), .pointer (some ⟨g2, 0, none⟩)] w fun e w' => e = .returned (.bool (pF x fr s)) ∧ Below w.heap.size w w' := by
  obtain ⟨loc, r, b, t, f⟩ := s
  have hc1' : ∀ o, (w.alloc o).cell? ⟨g1, 0, none⟩ = some (.int .i64 x) := fun o => by rw [World.cell?_alloc_lt _ _ _ (by exact hg1)]; exact hc1
  have hc2' : ∀ o, (w.alloc o).cell? ⟨g2, 0, none⟩ = some (.bool fr) := fun o => by rw [World.cell?_alloc_lt _ _ _ (by exact hg2)]; exact hc2
  unfold pF
  dsimp only
  by_cases h : loc = x
  · subst h
    go_enter Try.func43, Try.ntmps43
    go_wp2
    go_ret
    exact ⟨by simp, below_new _ _⟩
  · have h1 : (loc == x) = false := by simpa using h
    rw [h1, Bool.false_and]
    go_enter Try.func43, Try.ntmps43
    go_wp2
    go_ret
    exact ⟨rfl, below_new _ _⟩
set_option maxRecDepth 100000 in
set_option maxHeartbeats 1000000 in
theorem gfind_none (A : Option Addr) (n c : Nat) (l : List Spot) (x : Int) (fr : Bool) (w : World) (hr : Reads w w.heap.size 5 A n (spotsC l)) (hn : n ≤ 256) (hix : ixOf (pF x fr) l < 0) :
    Calls Try.prog 27 #[.slice A n c, .int .i64 x, .bool fr] w fun e w' => e = .returned (.tuple #[.agg #[.int .i64 0, .int .i64 0, .int .i64 0, .int .i64 0, .bool false], .bool false]) ∧ Below w.heap.size w w' := by
  have HIX := Lib.hid (fun W hr hB HC => indexSpot2_any 43 (.pointer (some ⟨w.heap.size, 0, none⟩)) (.pointer (some ⟨w.heap.size + 1, 0, none⟩)) A n c w.heap.size l (pF x fr) W hr hB (by omega) (plain_of (fn := Try.f43) Try.func43 (by kernel_rfl) (by kernel_rfl)) HC)
  generalize hp : pF x fr = p at *
  have HP := Lib.hid hp
  generalize ixOf p l = z at *
  clear hp
  go_enter Try.func27, Try.ntmps27
  go_wp2_with fail
  have hb0 := (((below_new w (.cells #[.int .i64 x] 3)).alloc (by simp) (.cells #[.bool fr] 4))).alloc (by simp; omega) (.cells #[.int .i64 0, .int .i64 0, .int .i64 0, .int .i64 0, .bool false] 69)
  have B0 := ((Blk.new w 3 #[.int .i64 x]).alloc (.cells #[.bool fr] 4)).alloc (.cells #[.int .i64 0, .int .i64 0, .int .i64 0, .int .i64 0, .bool false] 69)
  have B1 := (Blk.new (w.alloc (.cells #[.int .i64 x] 3)) 4 #[.bool fr]).alloc (.cells #[.int .i64 0, .int .i64 0, .int .i64 0, .int .i64 0, .bool false] 69)
  have B2 := Blk.new ((w.alloc (.cells #[.int .i64 x] 3)).alloc (.cells #[.bool fr] 4)) 69 #[.int .i64 0, .int .i64 0, .int .i64 0, .int .i64 0, .bool false]
  simp only [World.size_alloc] at B1 B2
  refine (HIX.out _ (hr.below hb0) (by simp <;> omega) ?_).mono ?_
  · intro w' s hb' _
    have hsz := hb'.size
    simp only [World.size_alloc] at hsz
    have := findC_any w.heap.size (w.heap.size + 1) x fr s w' (by omega) (by omega) ((B0.below hb' (by simp; omega)).cell 0) ((B1.below hb' (by simp)).cell 0)
    rw [HP.out] at this
    exact this
  rintro e w1 ⟨rfl, hb1⟩
  have D2 := B2.below hb1 (by simp)
  have hb01 := below_step hb0 (hb1.mono (by simp <;> omega))
  have m0 := D2.cell 0
  have m1 := D2.cell 1
  have m2 := D2.cell 2
  have m3 := D2.cell 3
  have m4 := D2.cell 4
  have g0 := D2.frozen 0
  have g1 := D2.frozen 1
  have g2 := D2.frozen 2
  have g3 := D2.frozen 3
  have g4 := D2.frozen 4
  simp only [List.getElem?_toArray, List.getElem?_cons_zero, List.getElem?_cons_succ] at m0 m1 m2 m3 m4
  have HB := Lib.hid hb01
  clear hb0 hb1 hb01 B0 B1 B2 D2
  go_wp2
  refine bodyPost_ret (v := .tuple #[.agg #[.int .i64 0, .int .i64 0, .int .i64 0, .int .i64 0, .bool false], .bool false]) ?_ rfl ⟨rfl, ?_⟩
  · simp only [results, Try.results27]
    go_simp
  · iterate 5 refine Below.setCell ?_ (by dsimp only; omega) _
    exact HB.out
set_option maxRecDepth 100000 in
set_option maxHeartbeats 1000000 in
theorem gfind_ok (A : Option Addr) (n c : Nat) (l : List Spot) (x : Int) (fr : Bool) (i : Nat) (s : Spot) (w : World) (hr : Reads w w.heap.size 5 A n (spotsC l)) (hn : n ≤ 256) (hix : ixOf (pF x fr) l = i) (hs : l[i]? = some s) :
    Calls Try.prog 27 #[.slice A n c, .int .i64 x, .bool fr] w fun e w' => e = .returned (.tuple #[.agg #[.int .i64 s.loc, .int .i64 s.r, .int .i64 s.b, .int .i64 s.t, .bool s.f], .bool true]) ∧ Below w.heap.size w w' := by
  have HIX := fun W hr hB HC => indexSpot2_any 43 (.pointer (some ⟨w.heap.size, 0, none⟩)) (.pointer (some ⟨w.heap.size + 1, 0, none⟩)) A n c w.heap.size l (pF x fr) W hr hB (by omega) (plain_of (fn := Try.f43) Try.func43 (by kernel_rfl) (by kernel_rfl)) HC
  rw [hix] at HIX
  have HIX := Lib.hid HIX
  have hin : i < n := by
    have h1 := (List.getElem?_eq_some_iff.1 hs).1
    have h2 := hr.1
    rw [spotsC_length] at h2
    omega
  generalize hp : pF x fr = p at *
  have HP := Lib.hid hp
  have HS := Lib.hid hs
  clear hp hix hs
  go_enter Try.func27, Try.ntmps27
  go_wp2_with fail
  have hb0 := (((below_new w (.cells #[.int .i64 x] 3)).alloc (by simp) (.cells #[.bool fr] 4))).alloc (by simp; omega) (.cells #[.int .i64 0, .int .i64 0, .int .i64 0, .int .i64 0, .bool false] 69)
  have B0 := ((Blk.new w 3 #[.int .i64 x]).alloc (.cells #[.bool fr] 4)).alloc (.cells #[.int .i64 0, .int .i64 0, .int .i64 0, .int .i64 0, .bool false] 69)
  have B1 := (Blk.new (w.alloc (.cells #[.int .i64 x] 3)) 4 #[.bool fr]).alloc (.cells #[.int .i64 0, .int .i64 0, .int .i64 0, .int .i64 0, .bool false] 69)
  have B2 := Blk.new ((w.alloc (.cells #[.int .i64 x] 3)).alloc (.cells #[.bool fr] 4)) 69 #[.int .i64 0, .int .i64 0, .int .i64 0, .int .i64 0, .bool false]
  simp only [World.size_alloc] at B1 B2
  refine (HIX.out _ (hr.below hb0) (by simp <;> omega) ?_).mono ?_
  · intro w' s hb' _
    have hsz := hb'.size
    simp only [World.size_alloc] at hsz
    have := findC_any w.heap.size (w.heap.size + 1) x fr s w' (by omega) (by omega) ((B0.below hb' (by simp; omega)).cell 0) ((B1.below hb' (by simp)).cell 0)
    rw [HP.out] at this
    exact this
  rintro e w1 ⟨rfl, hb1⟩
  have D2 := B2.below hb1 (by simp)
  have hb01 := below_step hb0 (hb1.mono (by simp <;> omega))
  obtain ⟨ad, s', rfl, had, hs', k0, k1, k2, k3, k4⟩ := (hr.below hb01).spot hin
  obtain rfl : s = s' := Option.some.inj (HS.out.symm.trans hs')
  obtain ⟨loc, r, b, t, f⟩ := s
  dsimp only at *
  have m0 := D2.cell 0
  have m1 := D2.cell 1
  have m2 := D2.cell 2
  have m3 := D2.cell 3
  have m4 := D2.cell 4
  have g0 := D2.frozen 0
  have g1 := D2.frozen 1
  have g2 := D2.frozen 2
  have g3 := D2.frozen 3
  have g4 := D2.frozen 4
  simp only [List.getElem?_toArray, List.getElem?_cons_zero, List.getElem?_cons_succ] at m0 m1 m2 m3 m4
  have HB := Lib.hid hb01
  clear hb0 hb1 hb01 B0 B1 B2 D2 hs'
  go_wp2
  refine bodyPost_ret (v := .tuple #[.agg #[.int .i64 loc, .int .i64 r, .int .i64 b, .int .i64 t, .bool f], .bool true]) ?_ rfl ⟨rfl, ?_⟩
  · simp only [results, Try.results27]
    go_simp
  · iterate 5 refine Below.setCell ?_ (by dsimp only; omega) _
    exact HB.out
set_option maxHeartbeats 400000 in
theorem glay_zero (A : Option Addr) (n c : Nat) (i : Int) (w : World) :
    Calls Try.prog 26 #[.slice A n c, .int .i64 i, .int .i64 0] w fun e w' => e = .returned (.slice A n c) ∧ w' = w := by
  go_enter Try.func26, Try.ntmps26
  go_wp2
  go_ret
  exact ⟨rfl, rfl⟩
end Go.Proofs.Ytaclnkcohifpiaa

namespace Go.Proofs.Ytaclnkcohifpiaa
open Go.RowKit
set_option maxRecDepth 100000 in
set_option maxHeartbeats 2000000 in
theorem give_ok (A : Option Addr) (n c : Nat) (a : List Int) (x : Int) (i : Nat) (s : Spot) (w : World) (hr : Reads w w.heap.size 1 A n (a.map (.int .u64))) (hnc : n ≤ c) (ha : ∀ x ∈ a, (Lit.int .u64 x).wf = true)
    (hC : checkE a = 0) (hix : ixOf (pF x false) (spotsL a) = i) (hs : (spotsL a)[i]? = some s) (hxs : s.loc = x) (hfs : s.f = false) (hfree : ∀ t ∈ spotsL a, (x + 1) ∉ refsOf a t) :
    Calls Try.prog 10 #[.slice A n c, .int .i64 x] w fun e w' => Below w.heap.size w w' ∧ ∃ A' c', e = .returned (.tuple #[.slice A' n c', .int .i64 0]) ∧
      w'.ownsRow w.heap.size 25 1 (.slice A' n c') n ((layL a s.loc.toNat s.long.toNat).map (.int .u64)) := by
  have hE0 := (checkE_ok.1 hC).1
  have H1 := fun w hr => gspots_any A n c a w hr hnc ha
  have hgs : gspotsL a = spotsL a := by unfold gspotsL; rw [if_pos hC]
  rw [hC, hgs] at H1
  have hS := spotsL_length a
  have hlen := (parse_ok hE0).1
  have hal : a.length = n := by have := hr.1; simpa using this
  have hok := (parse_mem (parse_ok hE0).2 s (List.mem_of_getElem? hs)).1
  have HOK := Lib.hid (fun t (ht : t ∈ spotsL a) => (parse_mem (parse_ok hE0).2 t ht).1)
  have HFR := Lib.hid hfree
  generalize hSS : spotsL a = S at *
  obtain ⟨k0, hk0⟩ : ∃ k, k = S.length := ⟨_, rfl⟩
  rw [← hk0] at H1 hS
  have HF := Lib.hid (fun A c w hr => gfind_ok A k0 c S x false i s w hr hS hix hs)
  have HGs := fun w => glong_ok s.r s.b s.t s.f w hok.head
  have hl0 := hok.loc0
  have hlf := hok.fits
  have hr0 := hok.r0
  have hb0 := hok.b0
  obtain ⟨loc, r2, b2, t2, f2⟩ := s
  unfold Spot.long at *
  dsimp only at *
  subst hxs hfs
  obtain ⟨L, rfl⟩ : ∃ L : Nat, loc = L := ⟨loc.toNat, by omega⟩
  obtain ⟨m, hmm⟩ : ∃ m : Nat, 1 + r2 + b2 = m := ⟨(1 + r2 + b2).toNat, by omega⟩
  rw [hmm] at HGs hlf ⊢
  simp only [Int.toNat_natCast]
  have HGs := Lib.hid HGs
  have H1 := Lib.hid H1
  have hn : n ≤ 256 := by omega
  have hLm : L + m ≤ n := by omega
  have hm1 : 1 ≤ m := by omega
  have HCl := Lib.hid (fun w hr hB => clone_u64 A n c w.heap.size (a.map (.int .u64)) w hr hB (u64s_one a) (by omega))
  have HLay := Lib.hid (fun A' c' W hr => glay_ok A' n c' W.heap.size a L m W hr (Nat.le_refl _) hn hLm hm1)
  have HAL := Lib.hid hal
  have hu1 : IntKind.u64.wrap (L : Int) = L := by simp [IntKind.wrap, IntKind.bits, IntKind.signed]; omega
  have hu2 : IntKind.u64.wrap ((L : Int) + 1) = (L : Int) + 1 := by simp [IntKind.wrap, IntKind.bits, IntKind.signed]; omega
  have HK0 := Lib.hid hk0
  clear hix hs hC hE0 hgs hok hk0 hmm hal hlen hl0 hlf hr0 hb0 hfree hSS
  go_enter Try.func10, Try.ntmps10
  go_wp2_with fail
  refine (H1.out _ hr).mono ?_
  rintro e w1 ⟨hb1, A', c', rfl, hown⟩
  have hrl := Reads.of_own hown
  clear hown
  go_wp2_with fail
  refine (HF.out _ _ _ hrl).mono ?_
  rintro e w2 ⟨rfl, hb2⟩
  have hb02 := below_step hb1 hb2
  have hb03 := hb02.alloc hb02.size (.cells #[.int .i64 L, .int .i64 r2, .int .i64 b2, .int .i64 t2, .bool false] 69)
  have S3 := Blk.new w2 69 #[.int .i64 L, .int .i64 r2, .int .i64 b2, .int .i64 t2, .bool false]
  have hb23 := below_new w2 (.cells #[.int .i64 L, .int .i64 r2, .int .i64 b2, .int .i64 t2, .bool false] 69)
  have hrl3 := (((hrl.below hb2).more hb2.size).below hb23).more hb23.size
  have hra3 := (hr.below hb03).more hb03.size
  clear hrl hb1 hb2 hb02 hb23
  go_wp2
  go_loopw [11, 30] (fun _ i wr => ∃ (j : Nat), j ≤ k0 ∧ i = .int .i64 j ∧ Below (w2.alloc (.cells #[.int .i64 L, .int .i64 r2, .int .i64 b2, .int .i64 t2, .bool false] 69)).heap.size (w2.alloc (.cells #[.int .i64 L, .int .i64 r2, .int .i64 b2, .int .i64 t2, .bool false] 69)) wr) (fun _ i _ => k0 - (intOf i).toNat)
  case atStart => exact ⟨0, Nat.zero_le _, rfl, Below.refl _ _⟩
  case round =>
    obtain ⟨j, hj, rfl, hb⟩ := hrel
    by_cases hlt : j < k0
    · obtain ⟨ad, t, rfl, had, ht, c0, c1, c2, c3, c4⟩ := (hrl3.below hb).spot hlt
      have hok := HOK.out t (List.mem_of_getElem? ht)
      have hfr := HFR.out t (List.mem_of_getElem? ht)
      have hl0 := hok.loc0
      have hr0 := hok.r0
      have hft := hok.fits
      have hb0 := hok.b0
      have HREF : Hid (refsOf a t = (a.drop (t.loc.toNat + 1)).take t.r.toNat) := rfl
      obtain ⟨loc, r, b, tt, f⟩ := t
      unfold Spot.long at hft
      dsimp only at *
      rw [HAL.out] at hft
      obtain ⟨p, rfl⟩ : ∃ p : Nat, loc = p := ⟨loc.toNat, by omega⟩
      obtain ⟨q, rfl⟩ : ∃ q : Nat, r = q := ⟨r.toNat, by omega⟩
      have hpq : p + 1 + q ≤ n := by omega
      have hpos : 0 < n := by omega
      have hbx := hb.alloc hb.size (.cells #[.int .i64 p, .int .i64 q, .int .i64 b, .int .i64 tt, .bool f] 69)
      clear ht hok hft
      by_cases hpL : p = L
      · subst hpL
        go_wp2
        go_roundw
        case rel => exact ⟨j + 1, by omega, by go_num, hbx⟩
        case measure => simp [intOf]; omega
      · have hne : ((p : Int) == L) = false := by simp; omega
        have HS := (hra3.below hbx).sub (lo := p + 1) (hi := p + 1 + q) (by omega) hpq hnc
        rw [← List.map_drop, ← List.map_take, show (a.drop (p + 1)).take (p + 1 + q - (p + 1)) = refsOf a ⟨p, q, b, tt, f⟩ by rw [HREF.out]; simp] at HS
        obtain ⟨ada, hA, -⟩ := hra3.2 hpos
        subst hA
        rw [show p + 1 + q - (p + 1) = q by omega] at HS
        have HC : Hid (∀ A4 c4, (A4 = if c = p + 1 then some ada else (some ada).map (·.add (p + 1))) → Calls Try.prog 28 #[.slice A4 q c4, .int .u64 ((L : Int) + 1)] (wr.alloc (.cells #[.int .i64 p, .int .i64 q, .int .i64 b, .int .i64 tt, .bool f] 69)) fun e w' => e = .returned (.bool false) ∧ (wr.alloc (.cells #[.int .i64 p, .int .i64 q, .int .i64 b, .int .i64 tt, .bool f] 69)) = w') := fun A4 c4 h => by
          rw [h]
          exact contains_u64 _ q c4 _ _ ((L : Int) + 1) false _ HS (by omega) (decide_eq_false hfr)
        clear hfr HREF HS
        by_cases hci : c = p + 1
        · replace hci := hci.symm
          go_wp2_with fail
          refine (HC.out _ _ (by rw [if_pos hci.symm])).mono ?_
          rintro e w3 ⟨rfl, rfl⟩
          go_wp2
          go_roundw
          case rel => exact ⟨j + 1, by omega, by go_num, hbx⟩
          case measure => simp [intOf]; omega
        · go_wp2_with fail
          refine (HC.out _ _ (by rw [if_neg hci, Option.map_some, addr_add_pos _ _ (Nat.succ_pos _)])).mono ?_
          rintro e w3 ⟨rfl, rfl⟩
          go_wp2
          go_roundw
          case rel => exact ⟨j + 1, by omega, by go_num, hbx⟩
          case measure => simp [intOf]; omega
    · have S4 := (S3.below hb S3.lt).drew
      have hbr := hb03.trans (hb.mono hb03.size)
      have q0 := S4.cell 0
      have q1 := S4.cell 1
      have q2 := S4.cell 2
      have q3 := S4.cell 3
      have q4 := S4.cell 4
      simp only [List.getElem?_toArray, List.getElem?_cons_zero, List.getElem?_cons_succ] at q0 q1 q2 q3 q4
      have hb4 := hbr.drew
      have hra4 := (hr.below hb4).more hb4.size
      have CL0 : Hid True := trivial
      clear hra3 hrl3 hb hb03 S3 hbr
      go_wp2
      go_region_held3 (fun w' => w'.cell? ⟨w2.heap.size, 1, none⟩ = some (.int .i64 r2) ∧ w'.cell? ⟨w2.heap.size, 2, none⟩ = some (.int .i64 b2) ∧ w'.cell? ⟨w2.heap.size, 3, none⟩ = some (.int .i64 t2) ∧ w'.cell? ⟨w2.heap.size, 4, none⟩ = some (.bool false)) (go_keep)
        (first
          | (go_at_call 6; refine (HCl.out _ ((hr.below hb4).more hb4.size) (Nat.le_refl _)).mono ?_; rintro e w3 ⟨A3, c3, rfl, hown3, hb3⟩; have S4 := S4.below hb3 S4.lt; have q1 := S4.cell 1; have q2 := S4.cell 2; have q3 := S4.cell 3; have q4 := S4.cell 4; simp only [List.getElem?_toArray, List.getElem?_cons_zero, List.getElem?_cons_succ] at q1 q2 q3 q4; have hg3 := hb4.size; have hb4 := hb4.trans (hb3.mono hb4.size); have hownC := own_mono hown3 hg3)
          | (go_at_call 29; refine (HGs.out _).mono ?_; rintro e w4 ⟨rfl, hb5⟩; have S4 := S4.below hb5 S4.lt; have q1 := S4.cell 1; have q2 := S4.cell 2; have q3 := S4.cell 3; have q4 := S4.cell 4; simp only [List.getElem?_toArray, List.getElem?_cons_zero, List.getElem?_cons_succ] at q1 q2 q3 q4; have hb4 := hb4.trans (hb5.mono hb4.size); (try have hownC := own_below hownC hb5))
          | (go_at_call 26; refine (HLay.out _ _ _ (Reads.of_own hownC)).mono ?_; rintro e w5 ⟨hb5, A5, c5, rfl, hown5⟩; have S4 := S4.below hb5 S4.lt; have q1 := S4.cell 1; have q2 := S4.cell 2; have q3 := S4.cell 3; have q4 := S4.cell 4; simp only [List.getElem?_toArray, List.getElem?_cons_zero, List.getElem?_cons_succ] at q1 q2 q3 q4; have hg5 := hb4.size; have hb4 := hb4.trans (hb5.mono hb4.size); have hownZ := own_mono hown5 hg5))
      all_goals
        go_wp2
        go_ret2
        exact ⟨hb4, _, _, rfl, hownZ⟩
end Go.Proofs.Ytaclnkcohifpiaa

namespace Go.Proofs.Ytaclnkcohifpiaa
open Go.RowKit
def RowOut (base : Nat) (e : Ending) (w' : World) : Prop := ∃ (A' : Option Addr) (n' c' : Nat) (E : Int) (xs : List Value), e = .returned (.tuple #[.slice A' n' c', .int .i64 E]) ∧ OwnT w' base 25 1 (isNum .u64) (.slice A' n' c') n' xs
set_option maxHeartbeats 800000 in
theorem move_okT (A : Option Addr) (n c B : Nat) (xs : List Int) (from_ to_ k : Int) (w : World) (hr : Reads w B 1 A n (xs.map (.int .u64))) (hnc : n ≤ c) (hc : c ≤ 9223372036854775807) (hB : B ≤ w.heap.size) (hok : moveE n from_ to_ k = 0) (hxs : ∀ x ∈ xs, (Lit.int .u64 x).wf = true) :
    Calls Try.prog 7 #[.slice A n c, .int .i64 from_, .int .i64 to_, .int .i64 k] w fun e w' => Below w.heap.size w w' ∧
      ∃ A' c', e = .returned (.tuple #[.slice A' n c', .int .i64 0]) ∧ OwnT w' w.heap.size 25 1 (isNum .u64) (.slice A' n c') n ((moveL xs from_.toNat to_.toNat k.toNat).map (.int .u64)) := by
  obtain ⟨h1, h2, h3, h4, h5, h6⟩ := moveE_ok.1 hok
  have hS : stretchF n k [from_, to_] = 0 := by unfold moveE at hok; rwa [if_neg (by omega)] at hok
  have HS := Lib.hid hS
  clear hok hS
  obtain ⟨from0, rfl⟩ := Int.eq_ofNat_of_zero_le h3
  obtain ⟨to0, rfl⟩ := Int.eq_ofNat_of_zero_le h5
  obtain ⟨k0, rfl⟩ := Int.eq_ofNat_of_zero_le h2
  have hxl : xs.length = n := by have := hr.1; simpa using this
  have HX := Lib.hid hxl
  have HXS := Lib.hid hxs
  clear hxl hxs
  by_cases hk0 : 0 < k0
  · have hne : ¬ c = from0 := by omega
    obtain ⟨ad, rfl, had, hcells⟩ := hr.2 (by omega)
    have HC := Lib.hid hcells
    clear hcells
    go_enter Try.func7, Try.ntmps7
    go_wp2_with (first
      | (go_at_call 23; refine (stretches_any _ _ _ _ _ _ 2 _ [↑from0, ↑to0] _ (by omega) (by omega) (reads_new w [.int .i64 from0, .int .i64 to0] 3 2 1 rfl) (by omega) (by simp; omega)).mono ?_; rw [HS.out]; rintro e w' ⟨rfl, rfl⟩)
      | (go_at_call 6; refine (clone_u64T _ _ _ _ _ _ (hr.alloc hB _) (by simp; omega) (u64s_one _) (nums_num HXS.out 1) (by omega)).mono ?_; rintro e w1 ⟨A', c', rfl, hown, hb⟩))
    obtain ⟨g, cap, hv, hg, -⟩ := hown.1.form (by omega)
    obtain ⟨rfl, rfl⟩ : A' = some ⟨g, 0, none⟩ ∧ c' = cap := by simpa using hv
    clear hv
    obtain ⟨cur, hg1, hg2, hg3, hg4, hg5, hg6, hg7⟩ := hown.open
    have H7 := Lib.hid hg7
    have hne2 : ¬ c' = to0 := by omega
    have e1 : IntKind.i64.wrap ((to0 : Int) + k0) = (to0 : Int) + k0 := IntWalk.i64_in _ (by omega)
    have e2 : ((to0 : Int) + k0).toNat = to0 + k0 := by omega
    have e3 : 0 ≤ (to0 : Int) + k0 := by omega
    have e4 : (to0 : Int) + k0 ≤ c' := by omega
    have e5 : IntKind.i64.wrap ((from0 : Int) + k0) = (from0 : Int) + k0 := IntWalk.i64_in _ (by omega)
    have e6 : ((from0 : Int) + k0).toNat = from0 + k0 := by omega
    have e7 : 0 ≤ (from0 : Int) + k0 := by omega
    have e8 : (from0 : Int) + k0 ≤ c := by omega
    obtain ⟨cs, hcs⟩ : ∃ cs, cs = ((xs.drop from0).take k0).map (Value.int .u64) := ⟨_, rfl⟩
    have hcl : Hid (cs.length = k0) := by show _ = _; rw [hcs]; simp [HX.out]; omega
    have hc1 : ∀ u ∈ cs, u.oneCell' = true := by rw [hcs]; exact u64s_one _
    have hsrc : ∀ j v, cs[j]? = some v → w1.drew.cell? ((ad.add from0).add j) = some v := by
      intro j v hv
      have hj : j < k0 := by
        have := (List.getElem?_eq_some_iff.1 hv).1
        rw [hcl.out] at this; exact this
      rw [hcs, List.getElem?_map, List.getElem?_take, if_pos hj, List.getElem?_drop] at hv
      rw [add_of_add]
      show w1.cell? _ = _
      have hbl : (ad.add (from0 + j)).block < w.heap.size := by rw [block_of_add]; omega
      rw [hb.cell (p := ad.add (from0 + j)) (by simp; omega), World.cell?_alloc_lt _ _ _ hbl]
      exact HC.out _ _ (by rw [List.getElem?_map]; exact hv)
    have HCS := Lib.hid hcs
    have HSRC := Lib.hid hsrc
    have HC1 := Lib.hid hc1
    have HB : Hid (Below w.heap.size w w1) := ((Below.refl _ _).alloc (Nat.le_refl _) _).trans (hb.mono (by simp))
    have H5 := Lib.hid hg5
    have H6 := Lib.hid hg6
    clear hcs hsrc hc1 hb hg5 hg6 hg7 hown HC
    go_region_law (refine step_copy_splice rfl (.tmp 28) (.tmp 34) 22 22 rfl 25 Try.underlying22 size_u64 (some ⟨g, to0, none⟩) (some (ad.add from0)) k0 (c' - to0) k0 (c - from0) (by simp [Act.eval, Act.put]) (by simp [Act.eval, Act.put]) g to0 cur 25 hg2 cs (by rw [hcl.out]; simp) (fun _ => ⟨rfl, _, rfl, HSRC.out⟩) (by rw [hcl.out, H5.out]; omega) HC1.out w.heap.size w HB.out.drew (by simp at hg1; omega) ?_; intro w4 hh4 hb4)
    go_wp2
    go_ret2
    refine ⟨hb4, some ⟨g, 0, none⟩, c', rfl, ?_⟩
    have hcll := hcl.out
    have h5 := H5.out
    have := OwnT.close (w := w4) (base := w.heap.size) (e := 25) (size := 1) (ok := isNum .u64) (n := n) (c := c') (g := g) (splice cur to0 cs) (by simp at hg1; omega) hh4.out hg3 hg4 (by rw [length_splice _ _ _ (by omega)]; omega) (fun i u hu => splice_ok (p := fun u => ∃ x, u = .int .u64 x ∧ (Lit.int .u64 x).wf = true) (fun u hu => by obtain ⟨i, hi⟩ := List.mem_iff_getElem?.1 hu; exact H7.out i u hi) (fun u hu => by rw [HCS.out] at hu; obtain ⟨x, hx, rfl⟩ := List.mem_map.1 hu; exact ⟨x, rfl, HXS.out x (List.mem_of_mem_drop (List.mem_of_mem_take hx))⟩) u (List.mem_of_getElem? hu))
    rw [Nat.mul_one, take_splice _ _ _ _ (by omega) (by omega)] at this
    have h6 := H6.out
    rw [Nat.mul_one] at h6
    rw [h6, HCS.out] at this
    simpa [moveL, splice] using this
  · obtain rfl : k0 = 0 := by omega
    have HS : Hid (stretchF n 0 [↑from0, ↑to0] = 0) := HS.out
    have hcz := fun (w : World) (dp sp : Option Addr) (dc sc : Nat) => run_copy_none (P := Try.prog) w 22 22 3 25 dp sp 0 dc 0 sc Try.underlying22 size_u64 rfl
    have e1 : IntKind.i64.wrap (to0 : Int) = (to0 : Int) := IntWalk.i64_in _ (by omega)
    have e5 : IntKind.i64.wrap (from0 : Int) = (from0 : Int) := IntWalk.i64_in _ (by omega)
    have e8 : (from0 : Int) ≤ c := by omega
    go_enter Try.func7, Try.ntmps7
    go_wp2_with (first
      | (go_at_call 23; refine (stretches_any _ _ _ _ _ _ 2 _ [↑from0, ↑to0] _ (by omega) (by omega) (reads_new w [.int .i64 from0, .int .i64 to0] 3 2 1 rfl) (by omega) (by simp; omega)).mono ?_; rw [HS.out]; rintro e w' ⟨rfl, rfl⟩)
      | (go_at_call 6; refine (clone_u64T _ _ _ _ _ _ (hr.alloc hB _) (by simp; omega) (u64s_one _) (nums_num HXS.out 1) (by omega)).mono ?_; rintro e w1 ⟨A', c', rfl, hown, hb⟩))
    have e4 : (to0 : Int) ≤ c' := by have := own_cap hown.1; omega
    have HB : Hid (Below w.heap.size w w1.drew) := (((Below.refl _ _).alloc (Nat.le_refl _) _).trans (hb.mono (by simp))).drew
    have HO : Hid (OwnT w1.drew w.heap.size 25 1 (isNum .u64) (.slice A' n c') n ((moveL xs from0 to0 0).map (.int .u64))) := by
      have h := hown.mono (base := w.heap.size) (by simp)
      have e : moveL xs from0 to0 0 = xs := by simp [moveL, splice]
      rw [e]
      exact h.below (Below.refl _ _).drew
    clear hb hown
    by_cases hc1 : c' = to0
    all_goals by_cases hc2 : c = from0
    all_goals try subst hc1
    all_goals try subst hc2
    all_goals go_region
    all_goals
      go_wp2
      go_ret2
      exact ⟨HB.out, A', _, rfl, HO.out⟩
set_option maxHeartbeats 800000 in
theorem glay_okT (A : Option Addr) (n c B : Nat) (a : List Int) (i m : Nat) (w : World) (hr : Reads w B 1 A n (a.map (.int .u64))) (hB : B ≤ w.heap.size) (hn : n ≤ 256) (him : i + m ≤ n) (h1 : 1 ≤ m) (ha : ∀ x ∈ a, (Lit.int .u64 x).wf = true) :
    Calls Try.prog 26 #[.slice A n c, .int .i64 i, .int .i64 m] w fun e w' => Below w.heap.size w w' ∧ ∃ A' c', e = .returned (.slice A' n c') ∧ OwnT w' w.heap.size 25 1 (isNum .u64) (.slice A' n c') n ((layL a i m).map (.int .u64)) := by
  have hE : headE 0 ((m : Int) - 1) 0 true = 0 := headE_ok.2 ⟨by omega, by omega, by omega, by omega, by omega, by omega, by omega, fun _ => ⟨rfl, rfl⟩⟩
  have HW := Lib.hid (fun w => hword_ok 0 ((m : Int) - 1) 0 true w hE)
  have HVW : Hid ((Lit.int .u64 (wordOf 0 ((m : Int) - 1) 0 true)).wf = true) := by show _ = _; unfold wordOf; simp [Lit.wf, IntKind.min, IntKind.max, IntKind.signed, IntKind.bits]; omega
  have hF : fillE n i m = 0 := fillE_ok.2 ⟨by omega, by omega, by omega, by omega, by omega⟩
  have HF := Lib.hid (fun w hr hB => fill_okT A n c B a i m 0 w hr hB hF ha rfl)
  have HL : Hid (layL a i m = (fillL a i m 0).set i (wordOf 0 ((m : Int) - 1) 0 true)) := by show _ = _; unfold layL; rw [if_neg (by omega)]
  have w1 : IntKind.i64.wrap ((m : Int) - 1) = (m : Int) - 1 := IntWalk.i64_in _ (by omega)
  have hm0 : ((m : Int) == 0) = false := by simp; omega
  simp only [Int.toNat_natCast] at HF
  generalize fillL a i m 0 = F at *
  generalize wordOf 0 ((m : Int) - 1) 0 true = v at *
  clear hE hF ha
  go_enter Try.func26, Try.ntmps26
  go_wp2_with fail
  refine (HW.out _).mono ?_
  rintro e w1 ⟨rfl, hb1⟩
  go_wp2_with fail
  refine (HF.out _ (hr.below (hb1.mono hB)) (by have := hb1.size; omega)).mono ?_
  rintro e w2 ⟨hb2, A', c', rfl, hown⟩
  obtain ⟨g, cap, hv, hg, -⟩ := hown.1.form (by omega)
  obtain ⟨rfl, rfl⟩ : A' = some ⟨g, 0, none⟩ ∧ c' = cap := by simpa using hv
  have hF0 := hown.1.frozenAt i
  have hl := hown.1.1
  simp only [List.length_map] at hl
  have hc0 := hown.1.cellAt i (by omega)
  rw [List.getElem?_map, List.getElem?_eq_getElem (by omega)] at hc0
  have hc1 : w2.cell? ⟨g, i, none⟩ = some (.int .u64 (F[i]'(by omega))) := hc0
  have hin : i < n := by omega
  have HOW := Lib.hid hown
  clear hv hc0 hown
  go_wp2
  go_ret
  refine ⟨(below_step hb1 hb2).setCell (p := ⟨g, i, none⟩) (by have := hb1.size; exact Nat.le_trans this hg) _, some ⟨g, 0, none⟩, c', rfl, ?_⟩
  rw [HL.out, List.map_set]
  exact ((HOW.out.setElem hin (u := .int .u64 v) ⟨v, rfl, HVW.out⟩).1).mono hb1.size
set_option maxRecDepth 100000 in
set_option maxHeartbeats 1000000 in
theorem gjoin_okT (A : Option Addr) (n c : Nat) (a : List Int) (w : World) (hr : Reads w w.heap.size 1 A n (a.map (.int .u64))) (hnc : n ≤ c) (ha : ∀ x ∈ a, (Lit.int .u64 x).wf = true) (hE : checkE a = 0) :
    Calls Try.prog 9 #[.slice A n c] w fun e w' => Below w.heap.size w w' ∧ ∃ A' c', e = .returned (.tuple #[.slice A' n c', .int .i64 0]) ∧ OwnT w' w.heap.size 25 1 (isNum .u64) (.slice A' n c') n ((joinL a (gapsL (spotsL a))).map (.int .u64)) := by
  have H1 := fun w hr => gspots_any A n c a w hr hnc ha
  obtain ⟨s1, s2, s3, s4⟩ := gspots_small a
  have hgs : gspotsL a = spotsL a := by unfold gspotsL; rw [if_pos hE]
  rw [hE] at H1
  rw [hgs] at H1 s1 s2
  have H1 := Lib.hid H1
  have H2 := Lib.hid (fun A' c' w hr => ggaps_any A' (spotsL a).length c' (spotsL a) w hr s1 s2)
  have hal : a.length = n := by have := hr.1; simpa using this
  have hn : n ≤ 256 := by have := (parse_ok (checkE_ok.1 hE).1).1; omega
  have hJ := join_ok hE
  have HR := Lib.hid hJ.runs
  have hGl : (gapsL (spotsL a)).length ≤ 256 := by have := gapsA_length [] false (spotsL a); unfold gapsL; simp only [List.length_nil] at this; omega
  have H3 := Lib.hid (fun w hr hB => clone_u64T A n c w.heap.size (a.map (.int .u64)) w hr hB (u64s_one a) (nums_num ha 1) (by omega))
  generalize spotsL a = L at *
  generalize gapsL L = G at *
  obtain ⟨k, hk⟩ : ∃ k, k = G.length := ⟨_, rfl⟩
  have HK := Lib.hid hk
  rw [← hk] at H2 hGl
  have HAL := Lib.hid hal
  clear s1 s2 s3 s4 hgs hJ hE hk hal
  go_enter Try.func9, Try.ntmps9
  go_wp2_with fail
  refine (H1.out _ hr).mono ?_
  rintro e w1 ⟨hb1, A1, c1, rfl, hown1⟩
  have hrl := Reads.of_own hown1
  clear hown1
  go_wp2_with fail
  refine (H3.out _ ((hr.below hb1).more hb1.size) (Nat.le_refl _)).mono ?_
  rintro e w2 ⟨A2, c2, rfl, hown2, hb2⟩
  have hb02 := below_step hb1 hb2
  go_wp2_with fail
  refine (H2.out _ _ _ ((hrl.below hb2).more hb2.size)).mono ?_
  rintro e w3 ⟨hb3, A3, c3, rfl, hown3⟩
  have hrG := Reads.of_own hown3
  have hown23 := (hown2.below hb3).mono hb1.size
  have hb03 := below_step hb02 hb3
  clear hown3 hown2 hrl hb1 hb2 hb3 hb02
  go_wp2
  go_loopw [0, 7, 21] (fun o _ i wr => ∃ (j : Nat) (A' : Option Addr) (c' : Nat) (cur : List Int), j ≤ k ∧ i = .int .i64 j ∧ o = .slice A' n c' ∧ Hid (joinL a G = joinL cur (G.drop j)) ∧ OwnT wr w.heap.size 25 1 (isNum .u64) (.slice A' n c') n (cur.map (.int .u64)) ∧ Below w3.heap.size w3 wr) (fun _ _ i _ => k - (intOf i).toNat)
  case atStart => exact ⟨0, A2, c2, a, Nat.zero_le _, rfl, rfl, rfl, hown23, Below.refl _ _⟩
  case round =>
    obtain ⟨j, A', c', cur, hj, rfl, rfl, hJ, hown, hb⟩ := hrel
    by_cases hlt : j < k
    · obtain ⟨ad, r, rfl, had, hs, c0, c1⟩ := (hrG.below hb).run hlt
      obtain ⟨i, m, rfl, h1, him⟩ := HR.out r (List.mem_of_getElem? hs)
      rw [HAL.out] at him
      have HD := Lib.hid (drop_of_get hs)
      have HJ2 : Hid (joinL a G = joinL (layL cur i m) (G.drop (j + 1))) := by
        show _ = _
        rw [hJ.out, HD.out]
        rfl
      dsimp only at c0 c1
      have hrc := (Reads.of_own hown.1).alloc (Nat.le_refl _) (.cells #[.int .i64 i, .int .i64 m] 64)
      have HL := Lib.hid (glay_okT A' n c' _ cur i m _ hrc (by simp) hn him h1 (own_u64_ok hown))
      have hb0 := hb.alloc hb.size (.cells #[.int .i64 i, .int .i64 m] 64)
      have hbs : w.heap.size ≤ (wr.alloc (.cells #[.int .i64 i, .int .i64 m] 64)).heap.size := by have := hb0.size; have := hb03.size; omega
      clear hs hrc hown hJ
      go_wp2_with fail
      refine HL.out.mono ?_
      rintro e w4 ⟨hb4, A4, c4, rfl, hown4⟩
      go_wp2
      go_roundw
      case rel => exact ⟨j + 1, A4, c4, layL cur i m, by omega, by go_num, rfl, HJ2, hown4.mono hbs, hb0.trans (hb4.mono hb0.size)⟩
      case measure => simp [intOf]; omega
    · have hjk : j = k := by omega
      subst hjk
      rw [List.drop_of_length_le (by rw [← HK.out]; exact Nat.le_refl _)] at hJ
      have hJ : Hid (joinL a G = cur) := hJ
      go_wp2
      go_ret2
      rw [hJ.out]
      exact ⟨below_step hb03 hb, A', c', rfl, hown⟩
set_option maxRecDepth 100000 in
set_option maxHeartbeats 2000000 in
theorem giveT_ok (A : Option Addr) (n c : Nat) (a : List Int) (x : Int) (i : Nat) (s : Spot) (w : World) (hr : Reads w w.heap.size 1 A n (a.map (.int .u64))) (hnc : n ≤ c) (ha : ∀ x ∈ a, (Lit.int .u64 x).wf = true)
    (hC : checkE a = 0) (hix : ixOf (pF x false) (spotsL a) = i) (hs : (spotsL a)[i]? = some s) (hxs : s.loc = x) (hfs : s.f = false) :
    Calls Try.prog 10 #[.slice A n c, .int .i64 x] w fun e w' => Below w.heap.size w w' ∧ RowOut w.heap.size e w' := by
  have hE0 := (checkE_ok.1 hC).1
  have H1 := fun w hr => gspots_any A n c a w hr hnc ha
  have hgs : gspotsL a = spotsL a := by unfold gspotsL; rw [if_pos hC]
  rw [hC, hgs] at H1
  have hS := spotsL_length a
  have hlen := (parse_ok hE0).1
  have hal : a.length = n := by have := hr.1; simpa using this
  have hok := (parse_mem (parse_ok hE0).2 s (List.mem_of_getElem? hs)).1
  have HOK := Lib.hid (fun t (ht : t ∈ spotsL a) => (parse_mem (parse_ok hE0).2 t ht).1)
  generalize hSS : spotsL a = S at *
  obtain ⟨k0, hk0⟩ : ∃ k, k = S.length := ⟨_, rfl⟩
  rw [← hk0] at H1 hS
  have HF := Lib.hid (fun A c w hr => gfind_ok A k0 c S x false i s w hr hS hix hs)
  have HGs := fun w => glong_ok s.r s.b s.t s.f w hok.head
  have hl0 := hok.loc0
  have hlf := hok.fits
  have hr0 := hok.r0
  have hb0 := hok.b0
  obtain ⟨loc, r2, b2, t2, f2⟩ := s
  unfold Spot.long at *
  dsimp only at *
  subst hxs hfs
  obtain ⟨L, rfl⟩ : ∃ L : Nat, loc = L := ⟨loc.toNat, by omega⟩
  obtain ⟨m, hmm⟩ : ∃ m : Nat, 1 + r2 + b2 = m := ⟨(1 + r2 + b2).toNat, by omega⟩
  rw [hmm] at HGs hlf
  have HGs := Lib.hid HGs
  have H1 := Lib.hid H1
  have hn : n ≤ 256 := by omega
  have hLm : L + m ≤ n := by omega
  have hm1 : 1 ≤ m := by omega
  have HCl := Lib.hid (fun w hr hB => clone_u64T A n c w.heap.size (a.map (.int .u64)) w hr hB (u64s_one a) (nums_num ha 1) (by omega))
  have HLay := Lib.hid (fun A' c' W hr => glay_okT A' n c' W.heap.size a L m W hr (Nat.le_refl _) hn hLm hm1 ha)
  have HAL := Lib.hid hal
  have hu1 : IntKind.u64.wrap (L : Int) = L := by simp [IntKind.wrap, IntKind.bits, IntKind.signed]; omega
  have hu2 : IntKind.u64.wrap ((L : Int) + 1) = (L : Int) + 1 := by simp [IntKind.wrap, IntKind.bits, IntKind.signed]; omega
  have HK0 := Lib.hid hk0
  clear hix hs hC hE0 hgs hok hk0 hmm hal hlen hl0 hlf hr0 hb0 hSS
  go_enter Try.func10, Try.ntmps10
  go_wp2_with fail
  refine (H1.out _ hr).mono ?_
  rintro e w1 ⟨hb1, A', c', rfl, hown⟩
  have hrl := Reads.of_own hown
  clear hown
  go_wp2_with fail
  refine (HF.out _ _ _ hrl).mono ?_
  rintro e w2 ⟨rfl, hb2⟩
  have hb02 := below_step hb1 hb2
  have hb03 := hb02.alloc hb02.size (.cells #[.int .i64 L, .int .i64 r2, .int .i64 b2, .int .i64 t2, .bool false] 69)
  have S3 := Blk.new w2 69 #[.int .i64 L, .int .i64 r2, .int .i64 b2, .int .i64 t2, .bool false]
  have hb23 := below_new w2 (.cells #[.int .i64 L, .int .i64 r2, .int .i64 b2, .int .i64 t2, .bool false] 69)
  have hrl3 := (((hrl.below hb2).more hb2.size).below hb23).more hb23.size
  have hra3 := (hr.below hb03).more hb03.size
  clear hrl hb1 hb2 hb02 hb23
  go_wp2
  go_loopw [11, 30] (fun _ i wr => ∃ (j : Nat), j ≤ k0 ∧ i = .int .i64 j ∧ Below (w2.alloc (.cells #[.int .i64 L, .int .i64 r2, .int .i64 b2, .int .i64 t2, .bool false] 69)).heap.size (w2.alloc (.cells #[.int .i64 L, .int .i64 r2, .int .i64 b2, .int .i64 t2, .bool false] 69)) wr) (fun _ i _ => k0 - (intOf i).toNat)
  case atStart => exact ⟨0, Nat.zero_le _, rfl, Below.refl _ _⟩
  case round =>
    obtain ⟨j, hj, rfl, hb⟩ := hrel
    by_cases hlt : j < k0
    · obtain ⟨ad, t, rfl, had, ht, c0, c1, c2, c3, c4⟩ := (hrl3.below hb).spot hlt
      have hok := HOK.out t (List.mem_of_getElem? ht)
      have hl0 := hok.loc0
      have hr0 := hok.r0
      have hft := hok.fits
      have hb0 := hok.b0
      have HREF : Hid (refsOf a t = (a.drop (t.loc.toNat + 1)).take t.r.toNat) := rfl
      obtain ⟨loc, r, b, tt, f⟩ := t
      unfold Spot.long at hft
      dsimp only at *
      rw [HAL.out] at hft
      obtain ⟨p, rfl⟩ : ∃ p : Nat, loc = p := ⟨loc.toNat, by omega⟩
      obtain ⟨q, rfl⟩ : ∃ q : Nat, r = q := ⟨r.toNat, by omega⟩
      have hpq : p + 1 + q ≤ n := by omega
      have hpos : 0 < n := by omega
      have hbx := hb.alloc hb.size (.cells #[.int .i64 p, .int .i64 q, .int .i64 b, .int .i64 tt, .bool f] 69)
      clear ht hok hft
      by_cases hpL : p = L
      · subst hpL
        go_wp2
        go_roundw
        case rel => exact ⟨j + 1, by omega, by go_num, hbx⟩
        case measure => simp [intOf]; omega
      · have hne : ((p : Int) == L) = false := by simp; omega
        have HS := (hra3.below hbx).sub (lo := p + 1) (hi := p + 1 + q) (by omega) hpq hnc
        rw [← List.map_drop, ← List.map_take, show (a.drop (p + 1)).take (p + 1 + q - (p + 1)) = refsOf a ⟨p, q, b, tt, f⟩ by rw [HREF.out]; simp] at HS
        obtain ⟨ada, hA, -⟩ := hra3.2 hpos
        subst hA
        rw [show p + 1 + q - (p + 1) = q by omega] at HS
        obtain ⟨bb, hbb⟩ : ∃ bb, decide (((L : Int) + 1) ∈ refsOf a ⟨p, q, b, tt, f⟩) = bb := ⟨_, rfl⟩
        have HC : Hid (∀ A4 c4, (A4 = if c = p + 1 then some ada else (some ada).map (·.add (p + 1))) → Calls Try.prog 28 #[.slice A4 q c4, .int .u64 ((L : Int) + 1)] (wr.alloc (.cells #[.int .i64 p, .int .i64 q, .int .i64 b, .int .i64 tt, .bool f] 69)) fun e w' => e = .returned (.bool bb) ∧ (wr.alloc (.cells #[.int .i64 p, .int .i64 q, .int .i64 b, .int .i64 tt, .bool f] 69)) = w') := fun A4 c4 h => by
          rw [h]
          exact contains_u64 _ q c4 _ _ ((L : Int) + 1) bb _ HS (by omega) hbb
        have hbr0 := hb03.trans (hbx.mono hb03.size)
        clear hbb HREF HS
        by_cases hci : c = p + 1
        · replace hci := hci.symm
          go_wp2_with fail
          refine (HC.out _ _ (by rw [if_pos hci.symm])).mono ?_
          rintro e w3 ⟨rfl, rfl⟩
          cases bb
          · go_wp2
            go_roundw
            case rel => exact ⟨j + 1, by omega, by go_num, hbx⟩
            case measure => simp [intOf]; omega
          · go_wp2
            go_ret2
            exact ⟨hbr0, none, 0, 0, 8, [], rfl, OwnT.nil _ _ _ _ _⟩
        · go_wp2_with fail
          refine (HC.out _ _ (by rw [if_neg hci, Option.map_some, addr_add_pos _ _ (Nat.succ_pos _)])).mono ?_
          rintro e w3 ⟨rfl, rfl⟩
          cases bb
          · go_wp2
            go_roundw
            case rel => exact ⟨j + 1, by omega, by go_num, hbx⟩
            case measure => simp [intOf]; omega
          · go_wp2
            go_ret2
            exact ⟨hbr0, none, 0, 0, 8, [], rfl, OwnT.nil _ _ _ _ _⟩
    · have S4 := (S3.below hb S3.lt).drew
      have hbr := hb03.trans (hb.mono hb03.size)
      have q0 := S4.cell 0
      have q1 := S4.cell 1
      have q2 := S4.cell 2
      have q3 := S4.cell 3
      have q4 := S4.cell 4
      simp only [List.getElem?_toArray, List.getElem?_cons_zero, List.getElem?_cons_succ] at q0 q1 q2 q3 q4
      have hb4 := hbr.drew
      have hra4 := (hr.below hb4).more hb4.size
      have CL0 : Hid True := trivial
      clear hra3 hrl3 hb hb03 S3 hbr
      go_wp2
      go_region_held3 (fun w' => w'.cell? ⟨w2.heap.size, 1, none⟩ = some (.int .i64 r2) ∧ w'.cell? ⟨w2.heap.size, 2, none⟩ = some (.int .i64 b2) ∧ w'.cell? ⟨w2.heap.size, 3, none⟩ = some (.int .i64 t2) ∧ w'.cell? ⟨w2.heap.size, 4, none⟩ = some (.bool false)) (go_keep)
        (first
          | (go_at_call 6; refine (HCl.out _ ((hr.below hb4).more hb4.size) (Nat.le_refl _)).mono ?_; rintro e w3 ⟨A3, c3, rfl, hown3, hb3⟩; have S4 := S4.below hb3 S4.lt; have q1 := S4.cell 1; have q2 := S4.cell 2; have q3 := S4.cell 3; have q4 := S4.cell 4; simp only [List.getElem?_toArray, List.getElem?_cons_zero, List.getElem?_cons_succ] at q1 q2 q3 q4; have hg3 := hb4.size; have hb4 := hb4.trans (hb3.mono hb4.size); have hownC := OwnT.mono hown3 hg3)
          | (go_at_call 29; refine (HGs.out _).mono ?_; rintro e w4 ⟨rfl, hb5⟩; have S4 := S4.below hb5 S4.lt; have q1 := S4.cell 1; have q2 := S4.cell 2; have q3 := S4.cell 3; have q4 := S4.cell 4; simp only [List.getElem?_toArray, List.getElem?_cons_zero, List.getElem?_cons_succ] at q1 q2 q3 q4; have hb4 := hb4.trans (hb5.mono hb4.size); (try have hownC := OwnT.below hownC hb5))
          | (go_at_call 26; refine (HLay.out _ _ _ (Reads.of_own hownC.1)).mono ?_; rintro e w5 ⟨hb5, A5, c5, rfl, hown5⟩; have S4 := S4.below hb5 S4.lt; have q1 := S4.cell 1; have q2 := S4.cell 2; have q3 := S4.cell 3; have q4 := S4.cell 4; simp only [List.getElem?_toArray, List.getElem?_cons_zero, List.getElem?_cons_succ] at q1 q2 q3 q4; have hg5 := hb4.size; have hb4 := hb4.trans (hb5.mono hb4.size); have hownZ := OwnT.mono hown5 hg5))
      all_goals
        go_wp2
        go_ret2
        exact ⟨hb4, _, _, _, _, _, rfl, hownZ⟩
set_option maxRecDepth 100000 in
set_option maxHeartbeats 1000000 in
theorem give_any (A : Option Addr) (n c : Nat) (a : List Int) (x : Int) (w : World) (hr : Reads w w.heap.size 1 A n (a.map (.int .u64))) (hnc : n ≤ c) (ha : ∀ x ∈ a, (Lit.int .u64 x).wf = true) :
    Calls Try.prog 10 #[.slice A n c, .int .i64 x] w fun e w' => Below w.heap.size w w' ∧ RowOut w.heap.size e w' := by
  by_cases hC : checkE a = 0
  · rcases ixOf_cases (pF x false) (spotsL a) with ⟨hi, -⟩ | ⟨i, s, hi, hs, hp, -⟩
    · have hix : ixOf (pF x false) (spotsL a) < 0 := by omega
      have H1 := fun w hr => gspots_any A n c a w hr hnc ha
      have hgs : gspotsL a = spotsL a := by unfold gspotsL; rw [if_pos hC]
      rw [hC, hgs] at H1
      have H1 := Lib.hid H1
      have hS := spotsL_length a
      generalize spotsL a = S at *
      obtain ⟨k0, hk0⟩ : ∃ k, k = S.length := ⟨_, rfl⟩
      rw [← hk0] at H1 hS
      have HF := Lib.hid (fun A c w hr => gfind_none A k0 c S x false w hr hS hix)
      clear hC hix hi hgs hk0 ha
      go_enter Try.func10, Try.ntmps10
      go_wp2_with fail
      refine (H1.out _ hr).mono ?_
      rintro e w1 ⟨hb1, A', c', rfl, hown⟩
      have hrl := Reads.of_own hown
      clear hown
      go_wp2_with fail
      refine (HF.out _ _ _ hrl).mono ?_
      rintro e w2 ⟨rfl, hb2⟩
      have hb03 := (below_step hb1 hb2).alloc (below_step hb1 hb2).size (.cells #[.int .i64 0, .int .i64 0, .int .i64 0, .int .i64 0, .bool false] 69)
      go_wp2
      go_ret2
      exact ⟨hb03, none, 0, 0, 5, [], rfl, OwnT.nil _ _ _ _ _⟩
    · have hp2 : s.loc = x ∧ s.f = false := by unfold pF at hp; simpa using hp
      exact giveT_ok A n c a x i s w hr hnc ha hC hi hs hp2.1 hp2.2
  · have H1 := Lib.hid (fun w hr => gspots_any A n c a w hr hnc ha)
    generalize checkE a = E at *
    have hE1 : (E != 0) = true := by simpa using hC
    clear hC
    go_enter Try.func10, Try.ntmps10
    go_wp2_with fail
    refine (H1.out _ hr).mono ?_
    rintro e w1 ⟨hb1, A', c', rfl, hown⟩
    clear hown
    go_wp2
    go_ret2
    exact ⟨hb1, none, 0, 0, E, [], rfl, OwnT.nil _ _ _ _ _⟩
theorem gjoin_anyT (A : Option Addr) (n c : Nat) (a : List Int) (w : World) (hr : Reads w w.heap.size 1 A n (a.map (.int .u64))) (hnc : n ≤ c) (ha : ∀ x ∈ a, (Lit.int .u64 x).wf = true) :
    Calls Try.prog 9 #[.slice A n c] w fun e w' => Below w.heap.size w w' ∧ RowOut w.heap.size e w' := by
  by_cases hE : checkE a = 0
  · refine Calls.mono (gjoin_okT A n c a w hr hnc ha hE) ?_
    rintro e w' ⟨hb, A', c', rfl, ho⟩
    exact ⟨hb, A', n, c', 0, _, rfl, ho⟩
  · refine Calls.mono (gjoin_bad A n c a w hr hnc ha hE) ?_
    rintro e w' ⟨rfl, hb⟩
    exact ⟨hb, none, 0, 0, _, [], rfl, OwnT.nil _ _ _ _ _⟩
theorem move_anyT (A : Option Addr) (n c : Nat) (a : List Int) (x y z : Int) (w : World) (hr : Reads w w.heap.size 1 A n (a.map (.int .u64))) (hnc : n ≤ c) (hc : c ≤ 9223372036854775807) (ha : ∀ x ∈ a, (Lit.int .u64 x).wf = true)
    (hx : (Lit.int .i64 x).wf = true) (hy : (Lit.int .i64 y).wf = true) (hz : (Lit.int .i64 z).wf = true) :
    Calls Try.prog 7 #[.slice A n c, .int .i64 x, .int .i64 y, .int .i64 z] w fun e w' => Below w.heap.size w w' ∧ RowOut w.heap.size e w' := by
  simp [Lit.wf, IntKind.min, IntKind.max, IntKind.signed, IntKind.bits] at hx hy hz
  by_cases hE : moveE n x y z = 0
  · refine Calls.mono (move_okT A n c _ a x y z w hr hnc hc (Nat.le_refl _) hE ha) ?_
    rintro e w' ⟨hb, A', c', rfl, ho⟩
    exact ⟨hb, A', n, c', 0, _, rfl, ho⟩
  · refine Calls.mono (move_bad A n c x y z w hx hy hz hE) ?_
    rintro e w' ⟨hb, rfl⟩
    exact ⟨hb, none, 0, 0, _, [], rfl, OwnT.nil _ _ _ _ _⟩
theorem fill_anyT (A : Option Addr) (n c : Nat) (a : List Int) (x z v : Int) (w : World) (hr : Reads w w.heap.size 1 A n (a.map (.int .u64))) (ha : ∀ x ∈ a, (Lit.int .u64 x).wf = true)
    (hx : (Lit.int .i64 x).wf = true) (hz : (Lit.int .i64 z).wf = true) (hv : (Lit.int .u64 v).wf = true) :
    Calls Try.prog 8 #[.slice A n c, .int .i64 x, .int .i64 z, .int .u64 v] w fun e w' => Below w.heap.size w w' ∧ RowOut w.heap.size e w' := by
  simp [Lit.wf, IntKind.min, IntKind.max, IntKind.signed, IntKind.bits] at hx hz
  by_cases hE : fillE n x z = 0
  · refine Calls.mono (fill_okT A n c _ a x z v w hr (Nat.le_refl _) hE ha hv) ?_
    rintro e w' ⟨hb, A', c', rfl, ho⟩
    exact ⟨hb, A', n, c', 0, _, rfl, ho⟩
  · refine Calls.mono (fill_bad A n c w.heap.size x z v w hx hz hE) ?_
    rintro e w' ⟨hb, rfl⟩
    exact ⟨hb, none, 0, 0, _, [], rfl, OwnT.nil _ _ _ _ _⟩
end Go.Proofs.Ytaclnkcohifpiaa

namespace Go.Proofs.Ytaclnkcohifpiaa
open Go.RowKit
set_option maxHeartbeats 400000 in
theorem words_true (w : World) : Calls Try.prog 5 #[] w fun e w' => e = .returned (.bool true) ∧ Below w.heap.size w w' := by
  have H := load_ok (some ⟨w.heap.size, 0, none⟩) 1 1 _ [5] 0 (w.alloc (.cells #[.int .u64 5] 25)) (reads_new w [.int .u64 5] 25 1 1 rfl) (by simp) (by decide)
  go_enter Try.func5, Try.ntmps5
  go_wp2_with (go_at_call 22; refine H.mono ?_; rintro e w' ⟨hb, rfl⟩)
  go_ret
  exact ⟨rfl, ((Below.refl _ _).alloc (Nat.le_refl _) _).trans (hb.mono (by simp))⟩
end Go.Proofs.Ytaclnkcohifpiaa

namespace Go.Proofs.Ytaclnkcohifpiaa
open Go.RowKit
set_option maxHeartbeats 400000 in
theorem equal_u64 (A A2 : Option Addr) (n c m c2 B B2 : Nat) (xs ys : List Int) (w : World) (hr : Reads w B 1 A n (xs.map (.int .u64))) (hr2 : Reads w B2 1 A2 m (ys.map (.int .u64))) (hn : n ≤ 1000000000000000000) (hm : m ≤ 1000000000000000000) :
    Calls Try.prog 11 #[.slice A n c, .slice A2 m c2] w fun e w' => e = .returned (.bool (decide (xs = ys))) ∧ ∃ q, w' = w.drewN q := by
  have hxl : xs.length = n := by have := hr.1; simpa using this
  have hyl : ys.length = m := by have := hr2.1; simpa using this
  have HX := Lib.hid hxl
  have HY := Lib.hid hyl
  clear hxl hyl
  by_cases hnm : n = m
  · subst hnm
    go_enter Try.func11, Try.ntmps11
    go_wp2
    go_loopw [13] (fun i wr => ∃ j : Nat, j ≤ n ∧ i = .int .i64 j ∧ xs.take j = ys.take j ∧ ∃ q, wr = w.drewN q) (fun i _ => n - (intOf i).toNat)
    case atStart => exact ⟨0, Nat.zero_le _, rfl, by simp, 0, rfl⟩
    case round =>
      obtain ⟨j, hj, rfl, ht, q, rfl⟩ := hrel
      have HT := Lib.hid ht
      clear ht
      by_cases hlt : j < n
      · obtain ⟨ad, u, rfl, _, hx, hc⟩ := hr.at_ hlt
        obtain ⟨ad2, u2, rfl, _, hx2, hc2⟩ := hr2.at_ hlt
        have hl : j < xs.length := by rw [HX.out]; exact hlt
        have hl2 : j < ys.length := by rw [HY.out]; exact hlt
        rw [List.getElem?_map, List.getElem?_eq_getElem hl] at hx
        rw [List.getElem?_map, List.getElem?_eq_getElem hl2] at hx2
        obtain rfl : u = .int .u64 xs[j] := by simpa using hx.symm
        obtain rfl : u2 = .int .u64 ys[j] := by simpa using hx2.symm
        clear hx hx2
        have T : Hid (xs.take (j + 1) = ys.take (j + 1) ↔ xs[j] = ys[j]) := by
          show _ ↔ _
          rw [List.take_succ_eq_append_getElem hl, List.take_succ_eq_append_getElem hl2, HT.out]
          constructor
          · intro h
            have := List.append_cancel_left h
            simpa using this
          · intro h; rw [h]
        have hlt' : (j : Int) < n := by omega
        generalize hgx : xs[j] = x at *
        generalize hgy : ys[j] = y at *
        have HGX := Lib.hid hgx
        have HGY := Lib.hid hgy
        clear hgx hgy
        by_cases he : x = y
        · subst he
          go_wp2
          go_quiet (fail)
          go_wp2
          go_roundw
          case rel => exact ⟨j + 1, by omega, by go_num, T.out.2 (by simp), _, rfl⟩
          case measure => simp [intOf]; omega
        · have he2 : (x == y) = false := by simpa using he
          have he3 : (x != y) = true := by simpa using he
          go_wp2
          go_quiet (fail)
          go_wp2
          go_ret
          refine ⟨?_, _, drewN_add _ _ _⟩
          have : ¬ xs = ys := by
            intro h
            apply he
            rw [← HGX.out, ← HGY.out]
            subst h
            rfl
          rw [decide_eq_false this]
          rfl
      · go_wp2
        go_ret
        have hjn : j = n := by omega
        subst hjn
        exact ⟨by rw [decide_eq_true (eq_of_takes _ _ _ HX.out HY.out HT.out)]; rfl, _, rfl⟩
  · have hne : ¬ xs = ys := by
      intro h
      subst h
      exact hnm (HX.out.symm.trans HY.out)
    have e1 : ((n : Int) == (m : Int)) = false := by simp; omega
    have e2 : ((n : Int) != (m : Int)) = true := by simp; omega
    have e3 : (n == m) = false := by simpa using hnm
    have e4 : (n != m) = true := by simpa using hnm
    go_enter Try.func11, Try.ntmps11
    go_wp2
    go_ret
    exact ⟨by rw [decide_eq_false hne]; rfl, 0, rfl⟩
end Go.Proofs.Ytaclnkcohifpiaa
