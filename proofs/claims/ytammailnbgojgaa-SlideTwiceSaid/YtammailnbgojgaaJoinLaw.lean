/-
  Plain law: what gap.Join does to an arena. No program stands here.
-/
import Derived.Test.YtammailnbgojgaaChunks
import Derived.Test.YtammailnbgojgaaGapDefs
import Derived.Test.YtammailnbgojgaaWord
namespace Go.Proofs.Ytammailnbgojgaa
open Go.RowKit

def freeC (p : Nat) : Chk := ⟨0, (p : Int) - 1, 0, true, List.replicate (p - 1) 0⟩
def flushC (p : Nat) : List Chk := if p = 0 then [] else [freeC p]
def joinP : Nat → List Chk → List Chk
  | p, [] => flushC p
  | p, c :: cs => if c.f then joinP (p + c.len) cs else flushC p ++ c :: joinP 0 cs
def flushG (i p : Nat) : List Rn := if p = 0 then [] else [⟨i, p⟩]
def gapsP : Nat → Nat → List Chk → List Rn
  | i, p, [] => flushG (i - p) p
  | i, p, c :: cs => if c.f then gapsP (i + c.len) (p + c.len) cs else flushG (i - p) p ++ gapsP (i + c.len) 0 cs

theorem freeC_len {p : Nat} (h : p ≠ 0) : (freeC p).len = p := by unfold Chk.len freeC; rw [List.length_replicate]; omega
theorem freeC_f (p : Nat) : (freeC p).f = true := rfl
theorem freeC_ok {p : Nat} (h : p ≠ 0) (h2 : p ≤ 256) : (freeC p).ok := by
  refine ⟨headE_ok.2 ?_, ?_⟩
  · unfold freeC; dsimp only; refine ⟨by omega, by omega, by omega, by omega, by omega, by omega, by omega, fun _ => ⟨rfl, rfl⟩⟩
  · unfold freeC; dsimp only; rw [List.length_replicate]; omega
theorem flushC_length (p : Nat) : (chunksW (flushC p)).length = p := by
  unfold flushC
  by_cases h : p = 0
  · rw [if_pos h, h]; rfl
  · rw [if_neg h, chunksW_cons, List.length_append, chkW_length, freeC_len h]; rfl

theorem joinP_length : ∀ (cs : List Chk) (p : Nat), (chunksW (joinP p cs)).length = p + (chunksW cs).length := by
  intro cs
  induction cs with
  | nil => intro p; simp only [joinP]; rw [flushC_length]; rfl
  | cons c cs ih =>
    intro p
    simp only [joinP]
    rw [chunksW_cons, List.length_append, chkW_length]
    split
    · rw [ih]; omega
    · rw [chunksW_append, List.length_append, flushC_length, chunksW_cons, List.length_append, chkW_length, ih]; omega

theorem joinP_mem : ∀ (cs : List Chk) (p : Nat) (d : Chk), d ∈ joinP p cs → (∃ q, q ≠ 0 ∧ q ≤ p + (chunksW cs).length ∧ d = freeC q) ∨ (d ∈ cs ∧ d.f = false) := by
  intro cs
  have hfl : ∀ (p n : Nat) (d : Chk), d ∈ flushC p → ∃ q, q ≠ 0 ∧ q ≤ p + n ∧ d = freeC q := by
    intro p n d h
    unfold flushC at h
    split at h
    · cases h
    · rename_i h0; exact ⟨p, h0, by omega, List.mem_singleton.1 h⟩
  induction cs with
  | nil => intro p d h; exact .inl (hfl p _ d h)
  | cons c cs ih =>
    intro p d h
    simp only [joinP] at h
    rw [chunksW_cons, List.length_append, chkW_length]
    split at h
    · rcases ih _ d h with ⟨q, h1, h2, h3⟩ | ⟨h1, h2⟩
      · exact .inl ⟨q, h1, by omega, h3⟩
      · exact .inr ⟨List.mem_cons_of_mem _ h1, h2⟩
    · rename_i hf
      rcases List.mem_append.1 h with h | h
      · exact .inl (hfl p _ d h)
      · rcases List.mem_cons.1 h with rfl | h
        · exact .inr ⟨List.mem_cons_self, by simpa using hf⟩
        · rcases ih _ d h with ⟨q, h1, h2, h3⟩ | ⟨h1, h2⟩
          · exact .inl ⟨q, h1, by omega, h3⟩
          · exact .inr ⟨List.mem_cons_of_mem _ h1, h2⟩

theorem gapsA_chunks : ∀ (cs : List Chk) (i p : Nat) (acc : List Rn), p ≤ i → (∀ c ∈ cs, c.ok) → gapsA (acc ++ flushG (i - p) p) (decide (0 < p)) (spotsFrom i cs) = acc ++ gapsP i p cs := by
  intro cs
  induction cs with
  | nil => intro i p acc _ _; simp only [spotsFrom, gapsA, gapsP]
  | cons c cs ih =>
    intro i p acc hp hok
    have hc := hok c List.mem_cons_self
    have hok' : ∀ d ∈ cs, d.ok := fun d hd => hok d (List.mem_cons_of_mem _ hd)
    have hpos : 1 ≤ c.len := by unfold Chk.len; omega
    simp only [spotsFrom, gapsA, gapsP]
    rw [Chk.long hc]
    have hsf : (c.spot i).f = c.f := rfl
    have hsl : (c.spot i).loc = i := rfl
    rw [hsf, hsl]
    cases hf : c.f
    · rw [if_pos rfl, if_neg (by decide)]
      have := ih (i + c.len) 0 (acc ++ flushG (i - p) p) (by omega) hok'
      rw [List.append_assoc] at this
      simpa [flushG] using this
    · rw [if_neg (by decide), if_pos rfl]
      have := ih (i + c.len) (p + c.len) acc (by omega) hok'
      rw [show i + c.len - (p + c.len) = i - p by omega] at this
      rw [decide_eq_true (by omega)] at this
      rw [← this]
      by_cases h0 : p = 0
      · rw [if_neg (by simp [h0])]
        subst h0
        have e1 : flushG (i - 0) 0 = [] := rfl
        have e2 : flushG (i - 0) (0 + c.len) = [⟨i, c.len⟩] := by unfold flushG; rw [if_neg (by omega)]; simp
        rw [e1, e2, List.append_nil]
      · rw [if_pos (by simp; omega)]
        simp only [flushG]
        rw [if_neg h0, if_neg (by omega), bump_snoc]
        congr 3

theorem gapsL_chunks {cs : List Chk} (hok : ∀ c ∈ cs, c.ok) : gapsL (spotsFrom 0 cs) = gapsP 0 0 cs := by
  have := gapsA_chunks cs 0 0 [] (by omega) hok
  simpa [flushG, gapsL] using this

theorem gapsP_mem : ∀ (cs : List Chk) (i p : Nat), p ≤ i → ∀ r ∈ gapsP i p cs, ∃ a n : Nat, r = ⟨a, n⟩ ∧ 1 ≤ n ∧ i - p ≤ a ∧ a + n ≤ i + (chunksW cs).length := by
  intro cs
  have hfl : ∀ (i p m : Nat), p ≤ i → ∀ r ∈ flushG (i - p) p, ∃ a n : Nat, r = ⟨a, n⟩ ∧ 1 ≤ n ∧ i - p ≤ a ∧ a + n ≤ i + m := by
    intro i p m hp r h
    unfold flushG at h
    split at h
    · cases h
    · exact ⟨i - p, p, List.mem_singleton.1 h, by omega, by omega, by omega⟩
  induction cs with
  | nil => intro i p hp r h; exact hfl i p _ hp r h
  | cons c cs ih =>
    intro i p hp r h
    simp only [gapsP] at h
    rw [chunksW_cons, List.length_append, chkW_length]
    split at h
    · obtain ⟨a, n, h1, h2, h3, h4⟩ := ih _ _ (by omega) r h
      exact ⟨a, n, h1, h2, by omega, by omega⟩
    · rcases List.mem_append.1 h with h | h
      · exact hfl i p _ hp r h
      · obtain ⟨a, n, h1, h2, h3, h4⟩ := ih _ _ (by omega) r h
        exact ⟨a, n, h1, h2, by omega, by omega⟩

/-- gap.lay -/
def layL (a : List Int) (i n : Nat) : List Int := if n = 0 then a else (fillL a i n 0).set i (wordOf 0 ((n : Int) - 1) 0 true)
theorem layL_length (a : List Int) (i n : Nat) (h : i + n ≤ a.length) : (layL a i n).length = a.length := by
  unfold layL
  split
  · rfl
  · rw [List.length_set, fillL_length _ _ _ _ h]
theorem layL_mid (pre X post : List Int) : layL (pre ++ X ++ post) pre.length X.length = pre ++ chunksW (flushC X.length) ++ post := by
  unfold layL flushC
  by_cases h : X.length = 0
  · rw [if_pos h, if_pos h, List.eq_nil_of_length_eq_zero h]; simp [chunksW]
  · rw [if_neg h, if_neg h]
    unfold fillL
    rw [show (pre ++ X ++ post).take pre.length = pre by rw [List.append_assoc]; simp, show (pre ++ X ++ post).drop (pre.length + X.length) = post by rw [show pre.length + X.length = (pre ++ X).length by simp, List.drop_left]]
    rw [List.append_assoc, List.set_append_right _ _ (Nat.le_refl _), Nat.sub_self]
    obtain ⟨m, hm⟩ : ∃ m, X.length = m + 1 := ⟨X.length - 1, by omega⟩
    rw [hm, List.replicate_succ, List.cons_append, List.set_cons_zero, List.append_assoc]
    simp [chunksW, chkW, freeC]
theorem layL_out {a : List Int} {i n k : Nat} (h : i + n ≤ a.length) (hk : k < i ∨ i + n ≤ k) : (layL a i n)[k]? = a[k]? := by
  unfold layL
  split
  · rfl
  · rw [List.getElem?_set_ne (by omega)]
    unfold fillL
    rcases hk with hk | hk
    · rw [List.append_assoc, List.getElem?_append_left (by rw [List.length_take]; omega), List.getElem?_take, if_pos hk]
    · rw [List.getElem?_append_right (by rw [List.length_append, List.length_take, List.length_replicate]; omega), List.length_append, List.length_take, List.length_replicate, Nat.min_eq_left (by omega), List.getElem?_drop]
      congr 1
      omega

def joinL (a : List Int) (l : List Rn) : List Int := l.foldl (fun a r => layL a r.loc.toNat r.len.toNat) a
theorem joinL_append (a : List Int) (l m : List Rn) : joinL a (l ++ m) = joinL (joinL a l) m := List.foldl_append
theorem joinL_flush (pre X post : List Int) : joinL (pre ++ X ++ post) (flushG pre.length X.length) = pre ++ chunksW (flushC X.length) ++ post := by
  rw [← layL_mid]
  unfold flushG joinL
  by_cases h : X.length = 0
  · rw [if_pos h]; unfold layL; rw [if_pos h]; rfl
  · rw [if_neg h]; simp
theorem joinL_chunks : ∀ (cs : List Chk) (pre X : List Int), joinL (pre ++ X ++ chunksW cs) (gapsP (pre.length + X.length) X.length cs) = pre ++ chunksW (joinP X.length cs) := by
  intro cs
  induction cs with
  | nil =>
    intro pre X
    simp only [gapsP, joinP]
    rw [Nat.add_sub_cancel, joinL_flush]
    simp [chunksW]
  | cons c cs ih =>
    intro pre X
    simp only [gapsP, joinP]
    cases hf : c.f
    · rw [if_neg (by decide), if_neg (by decide), joinL_append, Nat.add_sub_cancel, joinL_flush]
      have := ih (pre ++ chunksW (flushC X.length) ++ chkW c) []
      rw [List.length_append, List.length_append, flushC_length, chkW_length] at this
      simp only [List.append_nil, List.length_nil, Nat.add_zero, List.append_assoc] at this
      rw [chunksW_append, chunksW_cons, chunksW_cons, List.append_assoc]
      exact this
    · rw [if_pos rfl, if_pos rfl]
      have := ih pre (X ++ chkW c)
      rw [List.length_append, chkW_length, ← Nat.add_assoc] at this
      rw [← this, chunksW_cons]
      simp

theorem joinL_out {k : Nat} : ∀ (l : List Rn) (a : List Int), (∀ r ∈ l, ∃ i n : Nat, r = ⟨i, n⟩ ∧ i + n ≤ a.length) → (joinL a l)[k]? = a[k]? ∨ ∃ r ∈ l, r.loc ≤ (k : Int) ∧ (k : Int) - r.loc < r.len := by
  intro l
  induction l with
  | nil => intro a _; exact .inl rfl
  | cons r l ih =>
    intro a h
    obtain ⟨i, n, rfl, hin⟩ := h r List.mem_cons_self
    have hl := layL_length a i n hin
    by_cases hk : k < i ∨ i + n ≤ k
    · rcases ih (layL a i n) (fun s hs => by rw [hl]; exact h s (List.mem_cons_of_mem _ hs)) with h1 | ⟨s, hs, h2⟩
      · left
        rw [← layL_out hin hk]
        exact h1
      · exact .inr ⟨s, List.mem_cons_of_mem _ hs, h2⟩
    · exact .inr ⟨⟨i, n⟩, List.mem_cons_self, by dsimp only; omega, by dsimp only; omega⟩

theorem gapsP_join : ∀ (cs : List Chk) (i p : Nat), p ≤ i → gapsP (i - p) 0 (joinP p cs) = gapsP i p cs := by
  intro cs
  have key : ∀ (i p : Nat) (R : List Chk), p ≤ i → (R = [] ∨ ∃ c T, R = c :: T ∧ c.f = false) → gapsP (i - p) 0 (flushC p ++ R) = gapsP i p R := by
    intro i p R hp hR
    unfold flushC
    by_cases h0 : p = 0
    · rw [if_pos h0, h0]; rfl
    · rw [if_neg h0]
      simp only [List.cons_append, List.nil_append, gapsP]
      rw [if_pos (freeC_f p), freeC_len h0, show i - p + p = i by omega, Nat.zero_add]
  induction cs with
  | nil => intro i p hp; simp only [joinP]; have := key i p [] hp (.inl rfl); rwa [List.append_nil] at this
  | cons c cs ih =>
    intro i p hp
    simp only [joinP]
    cases hf : c.f
    · rw [if_neg (by decide), key i p _ hp (.inr ⟨c, _, rfl, hf⟩)]
      simp only [gapsP]
      rw [hf, if_neg (by decide), if_neg (by decide)]
      have := ih (i + c.len) 0 (by omega)
      rw [Nat.sub_zero] at this
      rw [this]
    · rw [if_pos rfl]
      simp only [gapsP]
      rw [hf, if_pos rfl, ← ih (i + c.len) (p + c.len) (by omega)]
      congr 1
      omega
theorem joinP_join : ∀ (cs : List Chk) (p : Nat), joinP 0 (joinP p cs) = joinP p cs := by
  intro cs
  induction cs with
  | nil =>
    intro p
    simp only [joinP]
    unfold flushC
    by_cases h0 : p = 0
    · rw [if_pos h0]; rfl
    · rw [if_neg h0]
      simp only [joinP]
      rw [if_pos (freeC_f p), freeC_len h0, Nat.zero_add]
      unfold flushC
      rw [if_neg h0]
  | cons c cs ih =>
    intro p
    simp only [joinP]
    cases hf : c.f
    · rw [if_neg (by decide)]
      unfold flushC
      by_cases h0 : p = 0
      · rw [if_pos h0]
        simp only [List.nil_append, joinP]
        rw [hf, if_neg (by decide), ih]
        rfl
      · rw [if_neg h0]
        simp only [List.cons_append, List.nil_append, joinP]
        rw [if_pos (freeC_f p), freeC_len h0, Nat.zero_add, hf, if_neg (by decide), ih]
        unfold flushC
        rw [if_neg h0]
        rfl
    · rw [if_pos rfl]
      exact ih _
theorem starts_join : ∀ (cs : List Chk) (i p : Nat), p ≤ i → starts (i - p) (joinP p cs) = starts i cs := by
  intro cs
  have key : ∀ (i p : Nat) (R : List Chk), p ≤ i → starts (i - p) (flushC p ++ R) = starts i R := by
    intro i p R hp
    unfold flushC
    by_cases h0 : p = 0
    · rw [if_pos h0, h0]; rfl
    · rw [if_neg h0]
      simp only [List.cons_append, List.nil_append, starts]
      rw [freeC_len h0, show i - p + p = i by omega]
      rfl
  induction cs with
  | nil => intro i p hp; simp only [joinP]; have := key i p [] hp; rwa [List.append_nil] at this
  | cons c cs ih =>
    intro i p hp
    simp only [joinP]
    cases hf : c.f
    · rw [if_neg (by decide), key i p _ hp]
      simp only [starts]
      have := ih (i + c.len) 0 (by omega)
      rw [Nat.sub_zero] at this
      rw [this]
    · rw [if_pos rfl]
      simp only [starts]
      rw [hf, if_pos rfl, List.nil_append, ← ih (i + c.len) (p + c.len) (by omega)]
      congr 1
      omega
theorem free_join : ∀ (cs : List Chk) (i p j : Nat), ((spotsFrom j (joinP p cs)).filter (·.f)).length = (gapsP i p cs).length := by
  intro cs
  have key : ∀ (i p j : Nat) (R : List Chk), ((spotsFrom j (flushC p ++ R)).filter (·.f)).length = (flushG i p).length + ((spotsFrom (j + p) R).filter (·.f)).length := by
    intro i p j R
    unfold flushC flushG
    by_cases h0 : p = 0
    · rw [if_pos h0, if_pos h0, h0]; simp
    · rw [if_neg h0, if_neg h0]
      simp only [List.cons_append, List.nil_append, spotsFrom]
      rw [freeC_len h0, List.filter_cons, if_pos (by rfl)]
      simp only [List.length_cons, List.length_nil]
      omega
  induction cs with
  | nil => intro i p j; simp only [joinP, gapsP]; have := key (i - p) p j []; rw [List.append_nil] at this; rw [this]; rfl
  | cons c cs ih =>
    intro i p j
    simp only [joinP, gapsP]
    cases hf : c.f
    · rw [if_neg (by decide), if_neg (by decide), key (i - p) p j, List.length_append]
      simp only [spotsFrom]
      rw [List.filter_cons, if_neg (by simp [Chk.spot, hf]), ih (i + c.len) 0]
    · rw [if_pos rfl, if_pos rfl]
      exact ih _ _ _

theorem joinP_ok {cs : List Chk} (hok : ∀ c ∈ cs, c.ok) (hl : (chunksW cs).length ≤ 256) : ∀ d ∈ joinP 0 cs, d.ok := by
  intro d hd
  rcases joinP_mem cs 0 d hd with ⟨q, h1, h2, rfl⟩ | ⟨h1, -⟩
  · exact freeC_ok h1 (by omega)
  · exact hok d h1
theorem refsC_join {cs : List Chk} (h : refsC cs) : refsC (joinP 0 cs) := by
  intro d hd v hv
  have hs := starts_join cs 0 0 (by omega)
  rw [Nat.sub_zero] at hs
  rw [hs]
  rcases joinP_mem cs 0 d hd with ⟨q, h1, h2, rfl⟩ | ⟨h1, -⟩
  · simp [freeC] at hv
  · exact h d h1 v hv

/-- WHAT gap.Join ANSWERS: b. -/
structure JoinOk (a b : List Int) (l : List Rn) : Prop where
  len : b.length = a.length
  check : checkE b = 0
  gaps : gapsL (spotsL b) = l
  again : joinL b l = b
  free : ((spotsL b).filter (·.f)).length = l.length
  out : ∀ k : Nat, b[k]? = a[k]? ∨ ∃ r ∈ l, r.loc ≤ (k : Int) ∧ (k : Int) - r.loc < r.len
  runs : ∀ r ∈ l, ∃ i n : Nat, r = ⟨i, n⟩ ∧ 1 ≤ n ∧ i + n ≤ a.length
theorem join_ok {a : List Int} (h : checkE a = 0) : JoinOk a (joinL a (gapsL (spotsL a))) (gapsL (spotsL a)) := by
  obtain ⟨cs, hok, rfl, hs, hl, hr⟩ := check_chunks h
  have hg : gapsL (spotsL (chunksW cs)) = gapsP 0 0 cs := by rw [hs, gapsL_chunks hok]
  rw [hg]
  have hj := joinL_chunks cs [] []
  simp only [List.nil_append, List.length_nil, Nat.add_zero] at hj
  have hok2 := joinP_ok hok hl
  have hlen := joinP_length cs 0
  rw [Nat.zero_add] at hlen
  have hm := gapsP_mem cs 0 0 (by omega)
  have hm' : ∀ r ∈ gapsP 0 0 cs, ∃ i n : Nat, r = ⟨i, n⟩ ∧ 1 ≤ n ∧ i + n ≤ (chunksW cs).length := fun r hr => by
    obtain ⟨i, n, h1, h2, h3, h4⟩ := hm r hr
    exact ⟨i, n, h1, h2, by omega⟩
  obtain ⟨hs1, hs2⟩ := chunks_spots hok2 (by omega)
  have hg2 := gapsP_join cs 0 0 (by omega)
  rw [Nat.sub_zero] at hg2
  refine ⟨by rw [hj, hlen], by rw [hj, checkE_chunks hok2 (by omega)]; exact refsC_join hr, by rw [hj, hs2, gapsL_chunks hok2, hg2], ?_, ?_, fun k => ?_, hm'⟩
  · have hj2 := joinL_chunks (joinP 0 cs) [] []
    simp only [List.nil_append, List.length_nil, Nat.add_zero] at hj2
    rw [hg2, joinP_join] at hj2
    rw [hj, hj2]
  · rw [hj, hs2, free_join cs 0 0 0]
  · exact joinL_out _ _ (fun r hr => by
      obtain ⟨i, n, h1, h2, h3⟩ := hm' r hr
      exact ⟨i, n, h1, h3⟩)
end Go.Proofs.Ytammailnbgojgaa
