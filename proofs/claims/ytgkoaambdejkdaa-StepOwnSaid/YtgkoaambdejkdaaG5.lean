/-
  Texts joined: JoinLaw PlanDefs PlanLaw SlideLaw SlidePlan SpliceLaw GapFits Plan Gaps GapFirst WalksTrue PlanGapsFn SlideFn.
-/
import Derived.Laws.CopyOwn
import Derived.KernelRfl
import Derived.Test.YtgkoaambdejkdaaRows
import Derived.Deep.RegionHeld3
import Derived.IntWalk
import Derived.Deep.QuietTactic
import Derived.BigQuiet
import Derived.Test.YtgkoaambdejkdaaG0
import Derived.Test.YtgkoaambdejkdaaG1
import Derived.Test.YtgkoaambdejkdaaG2
import Derived.Test.YtgkoaambdejkdaaG3
import Derived.Test.YtgkoaambdejkdaaG4
namespace Go.Proofs.Ytgkoaambdejkdaa
open Go.RowKit
def freeC (p : Nat) : Chk := ⟨0, (p : Int) - 1, 0, true, List.replicate (p - 1) 0⟩
def flushC (p : Nat) : List Chk := if p = 0 then [] else [freeC p]
def joinP : Nat → List Chk → List Chk
  | p, [] => flushC p
  | p, c :: cs => if c.f then joinP (p + c.len) cs else flushC p ++ c :: joinP 0 cs
def flushG (i p : Nat) : List Rn := if p = 0 then [] else [⟨i, p⟩]
def gapsP : Nat → Nat → List Chk → List Rn
  | i, p, [] => flushG (i - p) p
  | i, p, c :: cs => if c.f then gapsP (i + c.len) (p + c.len) cs else flushG (i - p) p ++ gapsP (i + c.len) 0 cs
theorem freeC_len {p : Nat} (h : p ≠ 0) : (freeC p).len = p := by unfold Chk.len freeC; rw [List.length_replicate]; omega
theorem freeC_f (p : Nat) : (freeC p).f = true := rfl
theorem freeC_ok {p : Nat} (h : p ≠ 0) (h2 : p ≤ 256) : (freeC p).ok := by
  refine ⟨headE_ok.2 ?_, ?_⟩
  · unfold freeC; dsimp only; refine ⟨by omega, by omega, by omega, by omega, by omega, by omega, by omega, fun _ => ⟨rfl, rfl⟩⟩
  · unfold freeC; dsimp only; rw [List.length_replicate]; omega
theorem flushC_length (p : Nat) : (chunksW (flushC p)).length = p := by
  unfold flushC
  by_cases h : p = 0
  · rw [if_pos h, h]; rfl
  · rw [if_neg h, chunksW_cons, List.length_append, chkW_length, freeC_len h]; rfl
theorem joinP_length : ∀ (cs : List Chk) (p : Nat), (chunksW (joinP p cs)).length = p + (chunksW cs).length := by
  intro cs
  induction cs with
  | nil => intro p; simp only [joinP]; rw [flushC_length]; rfl
  | cons c cs ih =>
    intro p
    simp only [joinP]
    rw [chunksW_cons, List.length_append, chkW_length]
    split
    · rw [ih]; omega
    · rw [chunksW_append, List.length_append, flushC_length, chunksW_cons, List.length_append, chkW_length, ih]; omega
theorem joinP_mem : ∀ (cs : List Chk) (p : Nat) (d : Chk), d ∈ joinP p cs → (∃ q, q ≠ 0 ∧ q ≤ p + (chunksW cs).length ∧ d = freeC q) ∨ (d ∈ cs ∧ d.f = false) := by
  intro cs
  have hfl : ∀ (p n : Nat) (d : Chk), d ∈ flushC p → ∃ q, q ≠ 0 ∧ q ≤ p + n ∧ d = freeC q := by
    intro p n d h
    unfold flushC at h
    split at h
    · cases h
    · rename_i h0; exact ⟨p, h0, by omega, List.mem_singleton.1 h⟩
  induction cs with
  | nil => intro p d h; exact .inl (hfl p _ d h)
  | cons c cs ih =>
    intro p d h
    simp only [joinP] at h
    rw [chunksW_cons, List.length_append, chkW_length]
    split at h
    · rcases ih _ d h with ⟨q, h1, h2, h3⟩ | ⟨h1, h2⟩
      · exact .inl ⟨q, h1, by omega, h3⟩
      · exact .inr ⟨List.mem_cons_of_mem _ h1, h2⟩
    · rename_i hf
      rcases List.mem_append.1 h with h | h
      · exact .inl (hfl p _ d h)
      · rcases List.mem_cons.1 h with rfl | h
        · exact .inr ⟨List.mem_cons_self, by simpa using hf⟩
        · rcases ih _ d h with ⟨q, h1, h2, h3⟩ | ⟨h1, h2⟩
          · exact .inl ⟨q, h1, by omega, h3⟩
          · exact .inr ⟨List.mem_cons_of_mem _ h1, h2⟩
theorem gapsA_chunks : ∀ (cs : List Chk) (i p : Nat) (acc : List Rn), p ≤ i → (∀ c ∈ cs, c.ok) → gapsA (acc ++ flushG (i - p) p) (decide (0 < p)) (spotsFrom i cs) = acc ++ gapsP i p cs := by
  intro cs
  induction cs with
  | nil => intro i p acc _ _; simp only [spotsFrom, gapsA, gapsP]
  | cons c cs ih =>
    intro i p acc hp hok
    have hc := hok c List.mem_cons_self
    have hok' : ∀ d ∈ cs, d.ok := fun d hd => hok d (List.mem_cons_of_mem _ hd)
    have hpos : 1 ≤ c.len := by unfold Chk.len; omega
    simp only [spotsFrom, gapsA, gapsP]
    rw [Chk.long hc]
    have hsf : (c.spot i).f = c.f := rfl
    have hsl : (c.spot i).loc = i := rfl
    rw [hsf, hsl]
    cases hf : c.f
    · rw [if_pos rfl, if_neg (by decide)]
      have := ih (i + c.len) 0 (acc ++ flushG (i - p) p) (by omega) hok'
      rw [List.append_assoc] at this
      simpa [flushG] using this
    · rw [if_neg (by decide), if_pos rfl]
      have := ih (i + c.len) (p + c.len) acc (by omega) hok'
      rw [show i + c.len - (p + c.len) = i - p by omega] at this
      rw [decide_eq_true (by omega)] at this
      rw [← this]
      by_cases h0 : p = 0
      · rw [if_neg (by simp [h0])]
        subst h0
        have e1 : flushG (i - 0) 0 = [] := rfl
        have e2 : flushG (i - 0) (0 + c.len) = [⟨i, c.len⟩] := by unfold flushG; rw [if_neg (by omega)]; simp
        rw [e1, e2, List.append_nil]
      · rw [if_pos (by simp; omega)]
        simp only [flushG]
        rw [if_neg h0, if_neg (by omega), bump_snoc]
        congr 3
theorem gapsL_chunks {cs : List Chk} (hok : ∀ c ∈ cs, c.ok) : gapsL (spotsFrom 0 cs) = gapsP 0 0 cs := by
  have := gapsA_chunks cs 0 0 [] (by omega) hok
  simpa [flushG, gapsL] using this
theorem gapsP_mem : ∀ (cs : List Chk) (i p : Nat), p ≤ i → ∀ r ∈ gapsP i p cs, ∃ a n : Nat, r = ⟨a, n⟩ ∧ 1 ≤ n ∧ i - p ≤ a ∧ a + n ≤ i + (chunksW cs).length := by
  intro cs
  have hfl : ∀ (i p m : Nat), p ≤ i → ∀ r ∈ flushG (i - p) p, ∃ a n : Nat, r = ⟨a, n⟩ ∧ 1 ≤ n ∧ i - p ≤ a ∧ a + n ≤ i + m := by
    intro i p m hp r h
    unfold flushG at h
    split at h
    · cases h
    · exact ⟨i - p, p, List.mem_singleton.1 h, by omega, by omega, by omega⟩
  induction cs with
  | nil => intro i p hp r h; exact hfl i p _ hp r h
  | cons c cs ih =>
    intro i p hp r h
    simp only [gapsP] at h
    rw [chunksW_cons, List.length_append, chkW_length]
    split at h
    · obtain ⟨a, n, h1, h2, h3, h4⟩ := ih _ _ (by omega) r h
      exact ⟨a, n, h1, h2, by omega, by omega⟩
    · rcases List.mem_append.1 h with h | h
      · exact hfl i p _ hp r h
      · obtain ⟨a, n, h1, h2, h3, h4⟩ := ih _ _ (by omega) r h
        exact ⟨a, n, h1, h2, by omega, by omega⟩
def layL (a : List Int) (i n : Nat) : List Int := if n = 0 then a else (fillL a i n 0).set i (wordOf 0 ((n : Int) - 1) 0 true)
theorem layL_length (a : List Int) (i n : Nat) (h : i + n ≤ a.length) : (layL a i n).length = a.length := by
  unfold layL
  split
  · rfl
  · rw [List.length_set, fillL_length _ _ _ _ h]
theorem layL_mid (pre X post : List Int) : layL (pre ++ X ++ post) pre.length X.length = pre ++ chunksW (flushC X.length) ++ post := by
  unfold layL flushC
  by_cases h : X.length = 0
  · rw [if_pos h, if_pos h, List.eq_nil_of_length_eq_zero h]; simp [chunksW]
  · rw [if_neg h, if_neg h]
    unfold fillL
    rw [show (pre ++ X ++ post).take pre.length = pre by rw [List.append_assoc]; simp, show (pre ++ X ++ post).drop (pre.length + X.length) = post by rw [show pre.length + X.length = (pre ++ X).length by simp, List.drop_left]]
    rw [List.append_assoc, List.set_append_right _ _ (Nat.le_refl _), Nat.sub_self]
    obtain ⟨m, hm⟩ : ∃ m, X.length = m + 1 := ⟨X.length - 1, by omega⟩
    rw [hm, List.replicate_succ, List.cons_append, List.set_cons_zero, List.append_assoc]
    simp [chunksW, chkW, freeC]
theorem layL_out {a : List Int} {i n k : Nat} (h : i + n ≤ a.length) (hk : k < i ∨ i + n ≤ k) : (layL a i n)[k]? = a[k]? := by
  unfold layL
  split
  · rfl
  · rw [List.getElem?_set_ne (by omega)]
    unfold fillL
    rcases hk with hk | hk
    · rw [List.append_assoc, List.getElem?_append_left (by rw [List.length_take]; omega), List.getElem?_take, if_pos hk]
    · rw [List.getElem?_append_right (by rw [List.length_append, List.length_take, List.length_replicate]; omega), List.length_append, List.length_take, List.length_replicate, Nat.min_eq_left (by omega), List.getElem?_drop]
      congr 1
      omega
def joinL (a : List Int) (l : List Rn) : List Int := l.foldl (fun a r => layL a r.loc.toNat r.len.toNat) a
theorem joinL_append (a : List Int) (l m : List Rn) : joinL a (l ++ m) = joinL (joinL a l) m := List.foldl_append
theorem joinL_flush (pre X post : List Int) : joinL (pre ++ X ++ post) (flushG pre.length X.length) = pre ++ chunksW (flushC X.length) ++ post := by
  rw [← layL_mid]
  unfold flushG joinL
  by_cases h : X.length = 0
  · rw [if_pos h]; unfold layL; rw [if_pos h]; rfl
  · rw [if_neg h]; simp
theorem joinL_chunks : ∀ (cs : List Chk) (pre X : List Int), joinL (pre ++ X ++ chunksW cs) (gapsP (pre.length + X.length) X.length cs) = pre ++ chunksW (joinP X.length cs) := by
  intro cs
  induction cs with
  | nil =>
    intro pre X
    simp only [gapsP, joinP]
    rw [Nat.add_sub_cancel, joinL_flush]
    simp [chunksW]
  | cons c cs ih =>
    intro pre X
    simp only [gapsP, joinP]
    cases hf : c.f
    · rw [if_neg (by decide), if_neg (by decide), joinL_append, Nat.add_sub_cancel, joinL_flush]
      have := ih (pre ++ chunksW (flushC X.length) ++ chkW c) []
      rw [List.length_append, List.length_append, flushC_length, chkW_length] at this
      simp only [List.append_nil, List.length_nil, Nat.add_zero, List.append_assoc] at this
      rw [chunksW_append, chunksW_cons, chunksW_cons, List.append_assoc]
      exact this
    · rw [if_pos rfl, if_pos rfl]
      have := ih pre (X ++ chkW c)
      rw [List.length_append, chkW_length, ← Nat.add_assoc] at this
      rw [← this, chunksW_cons]
      simp
theorem joinL_out {k : Nat} : ∀ (l : List Rn) (a : List Int), (∀ r ∈ l, ∃ i n : Nat, r = ⟨i, n⟩ ∧ i + n ≤ a.length) → (joinL a l)[k]? = a[k]? ∨ ∃ r ∈ l, r.loc ≤ (k : Int) ∧ (k : Int) - r.loc < r.len := by
  intro l
  induction l with
  | nil => intro a _; exact .inl rfl
  | cons r l ih =>
    intro a h
    obtain ⟨i, n, rfl, hin⟩ := h r List.mem_cons_self
    have hl := layL_length a i n hin
    by_cases hk : k < i ∨ i + n ≤ k
    · rcases ih (layL a i n) (fun s hs => by rw [hl]; exact h s (List.mem_cons_of_mem _ hs)) with h1 | ⟨s, hs, h2⟩
      · left
        rw [← layL_out hin hk]
        exact h1
      · exact .inr ⟨s, List.mem_cons_of_mem _ hs, h2⟩
    · exact .inr ⟨⟨i, n⟩, List.mem_cons_self, by dsimp only; omega, by dsimp only; omega⟩
theorem gapsP_join : ∀ (cs : List Chk) (i p : Nat), p ≤ i → gapsP (i - p) 0 (joinP p cs) = gapsP i p cs := by
  intro cs
  have key : ∀ (i p : Nat) (R : List Chk), p ≤ i → (R = [] ∨ ∃ c T, R = c :: T ∧ c.f = false) → gapsP (i - p) 0 (flushC p ++ R) = gapsP i p R := by
    intro i p R hp hR
    unfold flushC
    by_cases h0 : p = 0
    · rw [if_pos h0, h0]; rfl
    · rw [if_neg h0]
      simp only [List.cons_append, List.nil_append, gapsP]
      rw [if_pos (freeC_f p), freeC_len h0, show i - p + p = i by omega, Nat.zero_add]
  induction cs with
  | nil => intro i p hp; simp only [joinP]; have := key i p [] hp (.inl rfl); rwa [List.append_nil] at this
  | cons c cs ih =>
    intro i p hp
    simp only [joinP]
    cases hf : c.f
    · rw [if_neg (by decide), key i p _ hp (.inr ⟨c, _, rfl, hf⟩)]
      simp only [gapsP]
      rw [hf, if_neg (by decide), if_neg (by decide)]
      have := ih (i + c.len) 0 (by omega)
      rw [Nat.sub_zero] at this
      rw [this]
    · rw [if_pos rfl]
      simp only [gapsP]
      rw [hf, if_pos rfl, ← ih (i + c.len) (p + c.len) (by omega)]
      congr 1
      omega
theorem joinP_join : ∀ (cs : List Chk) (p : Nat), joinP 0 (joinP p cs) = joinP p cs := by
  intro cs
  induction cs with
  | nil =>
    intro p
    simp only [joinP]
    unfold flushC
    by_cases h0 : p = 0
    · rw [if_pos h0]; rfl
    · rw [if_neg h0]
      simp only [joinP]
      rw [if_pos (freeC_f p), freeC_len h0, Nat.zero_add]
      unfold flushC
      rw [if_neg h0]
  | cons c cs ih =>
    intro p
    simp only [joinP]
    cases hf : c.f
    · rw [if_neg (by decide)]
      unfold flushC
      by_cases h0 : p = 0
      · rw [if_pos h0]
        simp only [List.nil_append, joinP]
        rw [hf, if_neg (by decide), ih]
        rfl
      · rw [if_neg h0]
        simp only [List.cons_append, List.nil_append, joinP]
        rw [if_pos (freeC_f p), freeC_len h0, Nat.zero_add, hf, if_neg (by decide), ih]
        unfold flushC
        rw [if_neg h0]
        rfl
    · rw [if_pos rfl]
      exact ih _
theorem starts_join : ∀ (cs : List Chk) (i p : Nat), p ≤ i → starts (i - p) (joinP p cs) = starts i cs := by
  intro cs
  have key : ∀ (i p : Nat) (R : List Chk), p ≤ i → starts (i - p) (flushC p ++ R) = starts i R := by
    intro i p R hp
    unfold flushC
    by_cases h0 : p = 0
    · rw [if_pos h0, h0]; rfl
    · rw [if_neg h0]
      simp only [List.cons_append, List.nil_append, starts]
      rw [freeC_len h0, show i - p + p = i by omega]
      rfl
  induction cs with
  | nil => intro i p hp; simp only [joinP]; have := key i p [] hp; rwa [List.append_nil] at this
  | cons c cs ih =>
    intro i p hp
    simp only [joinP]
    cases hf : c.f
    · rw [if_neg (by decide), key i p _ hp]
      simp only [starts]
      have := ih (i + c.len) 0 (by omega)
      rw [Nat.sub_zero] at this
      rw [this]
    · rw [if_pos rfl]
      simp only [starts]
      rw [hf, if_pos rfl, List.nil_append, ← ih (i + c.len) (p + c.len) (by omega)]
      congr 1
      omega
theorem free_join : ∀ (cs : List Chk) (i p j : Nat), ((spotsFrom j (joinP p cs)).filter (·.f)).length = (gapsP i p cs).length := by
  intro cs
  have key : ∀ (i p j : Nat) (R : List Chk), ((spotsFrom j (flushC p ++ R)).filter (·.f)).length = (flushG i p).length + ((spotsFrom (j + p) R).filter (·.f)).length := by
    intro i p j R
    unfold flushC flushG
    by_cases h0 : p = 0
    · rw [if_pos h0, if_pos h0, h0]; simp
    · rw [if_neg h0, if_neg h0]
      simp only [List.cons_append, List.nil_append, spotsFrom]
      rw [freeC_len h0, List.filter_cons, if_pos (by rfl)]
      simp only [List.length_cons, List.length_nil]
      omega
  induction cs with
  | nil => intro i p j; simp only [joinP, gapsP]; have := key (i - p) p j []; rw [List.append_nil] at this; rw [this]; rfl
  | cons c cs ih =>
    intro i p j
    simp only [joinP, gapsP]
    cases hf : c.f
    · rw [if_neg (by decide), if_neg (by decide), key (i - p) p j, List.length_append]
      simp only [spotsFrom]
      rw [List.filter_cons, if_neg (by simp [Chk.spot, hf]), ih (i + c.len) 0]
    · rw [if_pos rfl, if_pos rfl]
      exact ih _ _ _
theorem joinP_ok {cs : List Chk} (hok : ∀ c ∈ cs, c.ok) (hl : (chunksW cs).length ≤ 256) : ∀ d ∈ joinP 0 cs, d.ok := by
  intro d hd
  rcases joinP_mem cs 0 d hd with ⟨q, h1, h2, rfl⟩ | ⟨h1, -⟩
  · exact freeC_ok h1 (by omega)
  · exact hok d h1
theorem refsC_join {cs : List Chk} (h : refsC cs) : refsC (joinP 0 cs) := by
  intro d hd v hv
  have hs := starts_join cs 0 0 (by omega)
  rw [Nat.sub_zero] at hs
  rw [hs]
  rcases joinP_mem cs 0 d hd with ⟨q, h1, h2, rfl⟩ | ⟨h1, -⟩
  · simp [freeC] at hv
  · exact h d h1 v hv
structure JoinOk (a b : List Int) (l : List Rn) : Prop where
  len : b.length = a.length
  check : checkE b = 0
  gaps : gapsL (spotsL b) = l
  again : joinL b l = b
  free : ((spotsL b).filter (·.f)).length = l.length
  out : ∀ k : Nat, b[k]? = a[k]? ∨ ∃ r ∈ l, r.loc ≤ (k : Int) ∧ (k : Int) - r.loc < r.len
  runs : ∀ r ∈ l, ∃ i n : Nat, r = ⟨i, n⟩ ∧ 1 ≤ n ∧ i + n ≤ a.length
theorem join_ok {a : List Int} (h : checkE a = 0) : JoinOk a (joinL a (gapsL (spotsL a))) (gapsL (spotsL a)) := by
  obtain ⟨cs, hok, rfl, hs, hl, hr⟩ := check_chunks h
  have hg : gapsL (spotsL (chunksW cs)) = gapsP 0 0 cs := by rw [hs, gapsL_chunks hok]
  rw [hg]
  have hj := joinL_chunks cs [] []
  simp only [List.nil_append, List.length_nil, Nat.add_zero] at hj
  have hok2 := joinP_ok hok hl
  have hlen := joinP_length cs 0
  rw [Nat.zero_add] at hlen
  have hm := gapsP_mem cs 0 0 (by omega)
  have hm' : ∀ r ∈ gapsP 0 0 cs, ∃ i n : Nat, r = ⟨i, n⟩ ∧ 1 ≤ n ∧ i + n ≤ (chunksW cs).length := fun r hr => by
    obtain ⟨i, n, h1, h2, h3, h4⟩ := hm r hr
    exact ⟨i, n, h1, h2, by omega⟩
  obtain ⟨hs1, hs2⟩ := chunks_spots hok2 (by omega)
  have hg2 := gapsP_join cs 0 0 (by omega)
  rw [Nat.sub_zero] at hg2
  refine ⟨by rw [hj, hlen], by rw [hj, checkE_chunks hok2 (by omega)]; exact refsC_join hr, by rw [hj, hs2, gapsL_chunks hok2, hg2], ?_, ?_, fun k => ?_, hm'⟩
  · have hj2 := joinL_chunks (joinP 0 cs) [] []
    simp only [List.nil_append, List.length_nil, Nat.add_zero] at hj2
    rw [hg2, joinP_join] at hj2
    rw [hj, hj2]
  · rw [hj, hs2, free_join cs 0 0 0]
  · exact joinL_out _ _ (fun r hr => by
      obtain ⟨i, n, h1, h2, h3⟩ := hm' r hr
      exact ⟨i, n, h1, h3⟩)
end Go.Proofs.Ytgkoaambdejkdaa

namespace Go.Proofs.Ytgkoaambdejkdaa
open Go.RowKit
def risesP : List Int → Bool
  | a :: b :: t => decide (a < b) && risesP (b :: t)
  | _ => true
theorem risesP_pairwise : ∀ {l : List Int}, risesP l = true → l.Pairwise (· < ·)
  | [], _ => List.Pairwise.nil
  | [_], _ => by simp
  | a :: b :: t, h => by
    simp only [risesP, Bool.and_eq_true, decide_eq_true_eq] at h
    have ih := risesP_pairwise h.2
    refine List.pairwise_cons.2 ⟨fun x hx => ?_, ih⟩
    rcases List.mem_cons.1 hx with rfl | hx
    · exact h.1
    · have := (List.pairwise_cons.1 ih).1 x hx
      omega
def pL (x : Int) (s : Spot) : Bool := (s.loc == x) && !s.f
def longAt (S : List Spot) (x : Int) : Int := match S[(ixOf (pL x) S).toNat]? with | some s => s.long | none => 0
def longsE (a keep pinned : List Int) : Int :=
  if checkE a ≠ 0 then checkE a else if (!risesP keep || !risesP pinned) = true then 3 else if keep.any (fun x => decide (ixOf (pL x) (spotsL a) < 0)) = true then 5 else if pinned.any (fun x => !decide (x ∈ keep)) = true then 5 else 0
def longsV (a keep pinned : List Int) : List Int := if longsE a keep pinned = 0 then keep.map (longAt (spotsL a)) else []
theorem longsE_ok {a keep pinned : List Int} : longsE a keep pinned = 0 ↔ checkE a = 0 ∧ risesP keep = true ∧ risesP pinned = true ∧ (∀ x ∈ keep, 0 ≤ ixOf (pL x) (spotsL a)) ∧ ∀ x ∈ pinned, x ∈ keep := by
  unfold longsE
  by_cases h1 : checkE a = 0
  · rw [if_neg (by simpa using h1)]
    by_cases h2 : (!risesP keep || !risesP pinned) = true
    · rw [if_pos h2]
      constructor
      · intro h; cases h
      · rintro ⟨_, h3, h4, _⟩; rw [h3, h4] at h2; cases h2
    · rw [if_neg h2]
      have h3 : risesP keep = true ∧ risesP pinned = true := by simpa using h2
      by_cases h4 : keep.any (fun x => decide (ixOf (pL x) (spotsL a) < 0)) = true
      · rw [if_pos h4]
        constructor
        · intro h; cases h
        · rintro ⟨_, _, _, h5, _⟩
          obtain ⟨x, hx, hd⟩ := List.any_eq_true.1 h4
          have := h5 x hx
          simp only [decide_eq_true_eq] at hd
          omega
      · rw [if_neg h4]
        have h5 : ∀ x ∈ keep, 0 ≤ ixOf (pL x) (spotsL a) := by
          intro x hx
          rcases Int.lt_or_le (ixOf (pL x) (spotsL a)) 0 with h | h
          · exact absurd (List.any_eq_true.2 ⟨x, hx, decide_eq_true h⟩) h4
          · exact h
        by_cases h6 : pinned.any (fun x => !decide (x ∈ keep)) = true
        · rw [if_pos h6]
          constructor
          · intro h; cases h
          · rintro ⟨_, _, _, _, h7⟩
            obtain ⟨x, hx, hd⟩ := List.any_eq_true.1 h6
            rw [decide_eq_true (h7 x hx)] at hd
            cases hd
        · rw [if_neg h6]
          refine ⟨fun _ => ⟨h1, h3.1, h3.2, h5, fun x hx => ?_⟩, fun _ => rfl⟩
          by_cases hk : x ∈ keep
          · exact hk
          · exact absurd (List.any_eq_true.2 ⟨x, hx, by rw [decide_eq_false hk]; rfl⟩) h6
  · rw [if_pos h1]
    exact ⟨fun h => absurd h h1, fun h => absurd h.1 h1⟩
def slidGo (pinned : List Int) : Int → List Int → List Int → List Int
  | e, x :: ks, n :: ls => (if x ∈ pinned then x else e) :: slidGo pinned ((if x ∈ pinned then x else e) + n) ks ls
  | _, _, _ => []
def pgaps (N : Int) : Int → List Int → List Int → List Rn
  | e, y :: ys, n :: ns => (if e < y then [⟨e, y - e⟩] else []) ++ pgaps N (y + n) ys ns
  | e, _, _ => if e < N then [⟨e, N - e⟩] else []
structure Kept (N : Int) (keep long : List Int) : Prop where
  same : long.length = keep.length
  at_ : ∀ (j : Nat) (x n : Int), keep[j]? = some x → long[j]? = some n → 0 ≤ x ∧ 1 ≤ n ∧ n ≤ 256 ∧ x + n ≤ N
  next : ∀ (j : Nat) (x n y : Int), keep[j]? = some x → long[j]? = some n → keep[j + 1]? = some y → x + n ≤ y
theorem spots_of_ix {a : List Int} (h : spotsE a = 0) {x : Int} (hx : 0 ≤ ixOf (pL x) (spotsL a)) :
    ∃ (i : Nat) (s : Spot), ixOf (pL x) (spotsL a) = i ∧ (spotsL a)[i]? = some s ∧ s.loc = x ∧ s.f = false ∧ SpotOk a s ∧ longAt (spotsL a) x = s.long ∧ ixOf (fun s => s.loc == x) (spotsL a) = i := by
  rcases ixOf_cases (pL x) (spotsL a) with ⟨h1, -⟩ | ⟨i, s, h1, h2, h3, h4⟩
  · omega
  · have h3' : s.loc = x ∧ s.f = false := by simpa [pL] using h3
    refine ⟨i, s, h1, h2, h3'.1, h3'.2, ((parse_mem (parse_ok h).2) s (List.mem_of_getElem? h2)).1, ?_, ?_⟩
    · unfold longAt
      rw [h1, Int.toNat_natCast, h2]
    · refine ixOf_some h2 (by simp [h3'.1]) (fun y hy => ?_)
      have hr := spots_rise h
      rw [List.mem_take_iff_getElem] at hy
      obtain ⟨j, hj, rfl⟩ := hy
      obtain ⟨hi, rfl⟩ := List.getElem?_eq_some_iff.1 h2
      have := List.pairwise_iff_getElem.1 hr j i (by omega) hi (by omega)
      simp only [beq_eq_false_iff_ne]
      omega
theorem kept_of {a keep pinned : List Int} (h : longsE a keep pinned = 0) : Kept a.length keep (longsV a keep pinned) ∧ (a.length : Int) ≤ 256 := by
  obtain ⟨h1, h2, h3, h4, h5⟩ := longsE_ok.1 h
  have hE := (checkE_ok.1 h1).1
  have hlen := (parse_ok hE).1
  have hV : longsV a keep pinned = keep.map (longAt (spotsL a)) := by unfold longsV; rw [if_pos h]
  have hat : ∀ (j : Nat) (x n : Int), keep[j]? = some x → (longsV a keep pinned)[j]? = some n → ∃ s ∈ spotsL a, s.loc = x ∧ s.long = n ∧ SpotOk a s := by
    intro j x n hx hn
    rw [hV, List.getElem?_map, hx] at hn
    obtain ⟨i, s, -, hs, hl, -, hok, hlg, -⟩ := spots_of_ix hE (h4 x (List.mem_of_getElem? hx))
    refine ⟨s, List.mem_of_getElem? hs, hl, ?_, hok⟩
    rw [← hlg]
    exact Option.some.inj hn
  refine ⟨⟨by rw [hV, List.length_map], fun j x n hx hn => ?_, fun j x n y hx hn hy => ?_⟩, by omega⟩
  · obtain ⟨s, hs, rfl, rfl, hok⟩ := hat j x n hx hn
    have := hok.loc0
    have := hok.r0
    have := hok.b0
    have := hok.fits
    have := hok.fit256
    unfold Spot.long at *
    omega
  · obtain ⟨s, hs, rfl, rfl, hok⟩ := hat j x n hx hn
    obtain ⟨i2, t, -, ht, hl2, -, hok2, -, -⟩ := spots_of_ix hE (h4 y (List.mem_of_getElem? hy))
    have hlt : s.loc < y := by
      obtain ⟨ha, rfl⟩ := List.getElem?_eq_some_iff.1 hy
      obtain ⟨hb, hb2⟩ := List.getElem?_eq_some_iff.1 hx
      have := List.pairwise_iff_getElem.1 (risesP_pairwise h2) j (j + 1) hb ha (by omega)
      rw [hb2] at this
      exact this
    have ho := parse_order (parse_ok hE).2
    have hr := spots_rise hE
    obtain ⟨i1, hi1, e1⟩ := List.mem_iff_getElem.1 hs
    obtain ⟨hi2, e2⟩ := List.getElem?_eq_some_iff.1 ht
    rcases Nat.lt_trichotomy i1 i2 with h | h | h
    · have := List.pairwise_iff_getElem.1 ho i1 i2 hi1 hi2 h
      rw [e1, e2] at this
      omega
    · subst h
      rw [e1] at e2
      subst e2
      omega
    · have := List.pairwise_iff_getElem.1 hr i2 i1 hi2 hi1 h
      rw [e1, e2] at this
      omega
end Go.Proofs.Ytgkoaambdejkdaa

namespace Go.Proofs.Ytgkoaambdejkdaa
open Go.RowKit
theorem Kept.tail {N x n : Int} {ks ls : List Int} (h : Kept N (x :: ks) (n :: ls)) : Kept N ks ls :=
  ⟨by have := h.same; simpa using this, fun j x n h1 h2 => h.at_ (j + 1) x n (by simpa using h1) (by simpa using h2), fun j x n y h1 h2 h3 => h.next (j + 1) x n y (by simpa using h1) (by simpa using h2) (by simpa using h3)⟩
structure Slid (N e : Int) (pinned keep L Y : List Int) : Prop where
  len : Y.length = keep.length
  low : ∀ (j : Nat) (y : Int), Y[j]? = some y → e ≤ y
  at_ : ∀ (j : Nat) (x y k : Int), keep[j]? = some x → L[j]? = some k → Y[j]? = some y → y ≤ x ∧ (x ∈ pinned → y = x) ∧ y + k ≤ N ∧ ∀ y', Y[j + 1]? = some y' → y + k ≤ y'
theorem slid_of (N : Int) (pinned : List Int) : ∀ (keep L : List Int) (e : Int), Kept N keep L → (∀ x, keep[0]? = some x → e ≤ x) → Slid N e pinned keep L (slidGo pinned e keep L) := by
  intro keep
  induction keep with
  | nil => intro L e _ _; exact ⟨by simp [slidGo], fun j y h => by simp [slidGo] at h, fun j x y k h => by simp at h⟩
  | cons x ks ih =>
    intro L e hK he
    cases L with
    | nil => have := hK.same; simp at this
    | cons n ls =>
      obtain ⟨x0, n1, n2, hxn⟩ := hK.at_ 0 x n rfl rfl
      have hex := he x rfl
      obtain ⟨z, hz⟩ : ∃ z, z = (if x ∈ pinned then x else e) := ⟨_, rfl⟩
      have hz1 : e ≤ z ∧ z ≤ x := by rw [hz]; split <;> omega
      have hz2 : x ∈ pinned → z = x := fun h => by rw [hz, if_pos h]
      have ih' := ih ls (z + n) hK.tail (fun y hy => by have := hK.next 0 x n y rfl rfl (by simpa using hy); omega)
      have hY : slidGo pinned e (x :: ks) (n :: ls) = z :: slidGo pinned (z + n) ks ls := by simp only [slidGo]; rw [← hz]
      rw [hY]
      refine ⟨by simp [ih'.len], fun j y h => ?_, fun j x' y k h1 h2 h3 => ?_⟩
      · cases j with
        | zero => obtain rfl : z = y := by simpa using h
                  exact hz1.1
        | succ j => have := ih'.low j y (by simpa using h); omega
      · cases j with
        | zero =>
          obtain rfl : x = x' := by simpa using h1
          obtain rfl : n = k := by simpa using h2
          obtain rfl : z = y := by simpa using h3
          exact ⟨hz1.2, hz2, by omega, fun y' h => ih'.low 0 y' (by simpa using h)⟩
        | succ j =>
          obtain ⟨a1, a2, a3, a4⟩ := ih'.at_ j x' y k (by simpa using h1) (by simpa using h2) (by simpa using h3)
          exact ⟨a1, a2, a3, fun y' h => a4 y' (by simpa using h)⟩
theorem kept_len {N : Int} {keep L : List Int} (h : Kept N keep L) : ∀ (j : Nat) (x : Int), keep[j]? = some x → (j : Int) ≤ x ∧ (j : Int) + 1 ≤ N := by
  intro j
  have hL : ∀ (j : Nat) (x : Int), keep[j]? = some x → ∃ n, L[j]? = some n := fun j x hx => ⟨_, List.getElem?_eq_getElem (by rw [h.same]; exact (List.getElem?_eq_some_iff.1 hx).1)⟩
  induction j with
  | zero =>
    intro x hx
    obtain ⟨n, hn⟩ := hL 0 x hx
    obtain ⟨a, b, c, d⟩ := h.at_ 0 x n hx hn
    exact ⟨by omega, by omega⟩
  | succ j ih =>
    intro x hx
    have hlt := (List.getElem?_eq_some_iff.1 hx).1
    obtain ⟨x0, hx0⟩ : ∃ x0, keep[j]? = some x0 := ⟨_, List.getElem?_eq_getElem (by omega)⟩
    obtain ⟨n0, hn0⟩ := hL j x0 hx0
    obtain ⟨n, hn⟩ := hL (j + 1) x hx
    obtain ⟨a, b, c, d⟩ := h.at_ (j + 1) x n hx hn
    obtain ⟨a0, b0, c0, d0⟩ := h.at_ j x0 n0 hx0 hn0
    have := h.next j x0 n0 x hx0 hn0 hx
    have := (ih x0 hx0).1
    exact ⟨by omega, by omega⟩
theorem kept_len2 {N : Int} {keep L : List Int} (h : Kept N keep L) (hN : 0 ≤ N) : (keep.length : Int) ≤ N := by
  rcases Nat.eq_zero_or_pos keep.length with h0 | h0
  · omega
  · have := kept_len h (keep.length - 1) keep[keep.length - 1] (List.getElem?_eq_getElem (by omega))
    omega
def rsum : List Rn → Int
  | [] => 0
  | r :: l => r.len + rsum l
def isum : List Int → Int
  | [] => 0
  | x :: l => x + isum l
theorem isum_append (a b : List Int) : isum (a ++ b) = isum a + isum b := by
  induction a with
  | nil => simp [isum]
  | cons x a ih => simp only [List.cons_append, isum, ih]; omega
theorem rsum_append (a b : List Rn) : rsum (a ++ b) = rsum a + rsum b := by
  induction a with
  | nil => simp [rsum]
  | cons x a ih => simp only [List.cons_append, rsum, ih]; omega
theorem pgaps_sum (N : Int) (pinned : List Int) : ∀ (keep L : List Int) (e : Int), Kept N keep L → (∀ x, keep[0]? = some x → e ≤ x) → e ≤ N → rsum (pgaps N e (slidGo pinned e keep L) L) + isum L = N - e ∧
    ∀ r ∈ pgaps N e (slidGo pinned e keep L) L, 0 ≤ r.len ∧ r.len ≤ N - e := by
  intro keep
  induction keep with
  | nil =>
    intro L e hK _ heN
    cases L with
    | cons n ls => have := hK.same; simp at this
    | nil =>
      simp only [slidGo, pgaps]
      by_cases h : e < N
      · rw [if_pos h]
        refine ⟨by simp [rsum, isum], fun r hr => ?_⟩
        obtain rfl := List.mem_singleton.1 hr
        dsimp only
        omega
      · rw [if_neg h]
        refine ⟨by simp only [rsum, isum]; omega, fun r hr => by cases hr⟩
  | cons x ks ih =>
    intro L e hK he heN
    cases L with
    | nil => have := hK.same; simp at this
    | cons n ls =>
      obtain ⟨x0, n1, n2, hxn⟩ := hK.at_ 0 x n rfl rfl
      have hex := he x rfl
      obtain ⟨z, hz⟩ : ∃ z, z = (if x ∈ pinned then x else e) := ⟨_, rfl⟩
      have hz1 : e ≤ z ∧ z ≤ x := by rw [hz]; split <;> omega
      obtain ⟨i1, i2⟩ := ih ls (z + n) hK.tail (fun y hy => by have := hK.next 0 x n y rfl rfl (by simpa using hy); omega) (by omega)
      have hY : slidGo pinned e (x :: ks) (n :: ls) = z :: slidGo pinned (z + n) ks ls := by simp only [slidGo]; rw [← hz]
      rw [hY]
      simp only [pgaps, isum]
      rw [rsum_append]
      refine ⟨?_, fun r hr => ?_⟩
      · by_cases h : e < z
        · rw [if_pos h]; simp only [rsum]; omega
        · rw [if_neg h]; simp only [rsum]; omega
      · rcases List.mem_append.1 hr with hr | hr
        · by_cases h : e < z
          · rw [if_pos h] at hr
            obtain rfl := List.mem_singleton.1 hr
            dsimp only
            omega
          · rw [if_neg h] at hr; cases hr
        · have := i2 r hr
          omega
theorem pgaps_count (N : Int) (pinned : List Int) : ∀ (keep L : List Int) (e : Int), (pgaps N e (slidGo pinned e keep L) L).length ≤ (keep.filter (fun x => decide (x ∈ pinned))).length + 1 := by
  intro keep
  induction keep with
  | nil =>
    intro L e
    simp only [slidGo, pgaps]
    split <;> simp
  | cons x ks ih =>
    intro L e
    cases L with
    | nil => simp only [slidGo, pgaps]; split <;> simp
    | cons n ls =>
      simp only [slidGo, pgaps, List.length_append]
      by_cases h : x ∈ pinned
      · rw [if_pos h, List.filter_cons_of_pos (by simpa using h)]
        have := ih ls (x + n)
        have h2 : (if e < x then [(⟨e, x - e⟩ : Rn)] else []).length ≤ 1 := by split <;> simp
        simp only [List.length_cons]
        omega
      · rw [if_neg h, List.filter_cons_of_neg (by simpa using h), if_neg (show ¬ e < e by omega)]
        have := ih ls (e + n)
        simp only [List.length_nil]
        omega
theorem nodup_sub : ∀ (l p : List Int), l.Pairwise (· < ·) → (∀ x ∈ l, x ∈ p) → l.length ≤ p.length := by
  intro l
  induction l with
  | nil => intro p _ _; simp
  | cons x l ih =>
    intro p hl hp
    obtain ⟨h1, h2⟩ := List.pairwise_cons.1 hl
    have hx := hp x List.mem_cons_self
    have := ih (p.erase x) h2 (fun y hy => (List.mem_erase_of_ne (by have := h1 y hy; omega)).2 (hp y (List.mem_cons_of_mem _ hy)))
    rw [List.length_erase_of_mem hx] at this
    have : 0 < p.length := List.length_pos_of_mem hx
    simp only [List.length_cons]
    omega
theorem pgaps_few {N : Int} {pinned keep L : List Int} (hr : risesP keep = true) : (pgaps N 0 (slidGo pinned 0 keep L) L).length ≤ pinned.length + 1 := by
  have h1 := pgaps_count N pinned keep L 0
  have h2 := nodup_sub (keep.filter (fun x => decide (x ∈ pinned))) pinned ((risesP_pairwise hr).filter _) (fun x hx => by
    have := (List.mem_filter.1 hx).2
    simpa using this)
  omega
end Go.Proofs.Ytgkoaambdejkdaa

namespace Go.Proofs.Ytgkoaambdejkdaa
open Go.RowKit
def rawL (N : Nat) : Nat → List (Nat × Chk) → List Int
  | e, [] => List.replicate (N - e) 0
  | e, (y, c) :: t => List.replicate (y - e) 0 ++ (chkW c ++ rawL N (y + c.len) t)
def laidC (N : Nat) : Nat → List (Nat × Chk) → List Chk
  | e, [] => flushC (N - e)
  | e, (y, c) :: t => flushC (y - e) ++ c :: laidC N (y + c.len) t
def RowsOk (N : Nat) : Nat → List (Nat × Chk) → Prop
  | e, [] => e ≤ N
  | e, (y, c) :: t => e ≤ y ∧ c.ok ∧ c.f = false ∧ RowsOk N (y + c.len) t
def setG (o : List Int) (g : Rn) : List Int := o.set g.loc.toNat (wordOf 0 (g.len - 1) 0 true)
def ysOf (rows : List (Nat × Chk)) : List Int := rows.map fun p => (p.1 : Int)
def lensOf (rows : List (Nat × Chk)) : List Int := rows.map fun p => (p.2.len : Int)
theorem RowsOk.le {N : Nat} : ∀ {rows : List (Nat × Chk)} {e : Nat}, RowsOk N e rows → e ≤ N
  | [], _, h => h
  | (y, c) :: t, e, ⟨h1, _, _, h3⟩ => by have := RowsOk.le h3; omega
theorem RowsOk.left {N : Nat} : ∀ {rows t : List (Nat × Chk)} {e : Nat}, RowsOk N e (rows ++ t) → RowsOk N e rows
  | [], _, _, h => h.le
  | (_, _) :: _, _, _, ⟨h1, h2, h3, h4⟩ => ⟨h1, h2, h3, RowsOk.left h4⟩
theorem rawL_length {N : Nat} : ∀ {rows : List (Nat × Chk)} {e : Nat}, RowsOk N e rows → (rawL N e rows).length = N - e
  | [], e, _ => by simp [rawL]
  | (y, c) :: t, e, ⟨h1, h2, h2', h3⟩ => by
    have := RowsOk.le h3
    simp only [rawL, List.length_append, List.length_replicate, chkW_length, rawL_length h3]
    omega
theorem laidC_length {N : Nat} : ∀ {rows : List (Nat × Chk)} {e : Nat}, RowsOk N e rows → (chunksW (laidC N e rows)).length = N - e
  | [], e, _ => flushC_length _
  | (y, c) :: t, e, ⟨h1, h2, h2', h3⟩ => by
    have := RowsOk.le h3
    simp only [laidC]
    rw [chunksW_append, chunksW_cons, List.length_append, List.length_append, flushC_length, chkW_length, laidC_length h3]
    omega
theorem flushC_mem {p : Nat} {d : Chk} (h : d ∈ flushC p) : p ≠ 0 ∧ d = freeC p := by
  unfold flushC at h
  split at h
  · cases h
  · rename_i h0; exact ⟨h0, List.mem_singleton.1 h⟩
theorem laidC_mem {N : Nat} : ∀ {rows : List (Nat × Chk)} {e : Nat}, RowsOk N e rows → ∀ d ∈ laidC N e rows, (∃ q, q ≠ 0 ∧ q ≤ N ∧ d = freeC q) ∨ ∃ y, (y, d) ∈ rows
  | [], e, h, d, hd => by
    obtain ⟨h1, h2⟩ := flushC_mem hd
    exact .inl ⟨_, h1, by omega, h2⟩
  | (y, c) :: t, e, ⟨h1, h2, h2', h3⟩, d, hd => by
    have := RowsOk.le h3
    simp only [laidC] at hd
    rcases List.mem_append.1 hd with hd | hd
    · obtain ⟨h1, h2⟩ := flushC_mem hd
      exact .inl ⟨_, h1, by omega, h2⟩
    · rcases List.mem_cons.1 hd with rfl | hd
      · exact .inr ⟨y, List.mem_cons_self⟩
      · rcases laidC_mem h3 d hd with h4 | ⟨z, h4⟩
        · exact .inl h4
        · exact .inr ⟨z, List.mem_cons_of_mem _ h4⟩
theorem RowsOk.mem {N : Nat} : ∀ {rows : List (Nat × Chk)} {e : Nat}, RowsOk N e rows → ∀ p ∈ rows, p.2.ok ∧ p.2.f = false
  | (y, c) :: t, e, ⟨h1, h2, h2', h3⟩, p, hp => by
    rcases List.mem_cons.1 hp with rfl | hp
    · exact ⟨h2, h2'⟩
    · exact RowsOk.mem h3 p hp
theorem laidC_ok {N : Nat} {rows : List (Nat × Chk)} {e : Nat} (h : RowsOk N e rows) (hN : N ≤ 256) : ∀ d ∈ laidC N e rows, d.ok := by
  intro d hd
  rcases laidC_mem h d hd with ⟨q, h1, h2, rfl⟩ | ⟨y, h1⟩
  · exact freeC_ok h1 (by omega)
  · exact (RowsOk.mem h _ h1).1
theorem laidC_split {N : Nat} : ∀ {rows : List (Nat × Chk)} {e j y : Nat} {c : Chk}, RowsOk N e rows → rows[j]? = some (y, c) → ∃ pre suf, laidC N e rows = pre ++ c :: suf ∧ e + (chunksW pre).length = y
  | (z, d) :: t, e, 0, y, c, ⟨h1, h2, h2', h3⟩, h => by
    simp only [List.getElem?_cons_zero, Option.some.injEq, Prod.mk.injEq] at h
    obtain ⟨rfl, rfl⟩ := h
    exact ⟨flushC (z - e), _, rfl, by rw [flushC_length]; omega⟩
  | (z, d) :: t, e, j + 1, y, c, ⟨h1, h2, h2', h3⟩, h => by
    rw [List.getElem?_cons_succ] at h
    obtain ⟨pre, suf, e1, e2⟩ := laidC_split h3 h
    refine ⟨flushC (z - e) ++ d :: pre, suf, ?_, ?_⟩
    · simp only [laidC]
      rw [e1, List.append_assoc, List.cons_append]
    · rw [chunksW_append, chunksW_cons, List.length_append, List.length_append, flushC_length, chkW_length]
      omega
theorem flush_set {pre rest : List Int} {e p : Nat} (he : pre.length = e) (hp : p ≠ 0) : (pre ++ (List.replicate p 0 ++ rest)).set e (wordOf 0 ((p : Int) - 1) 0 true) = pre ++ (chunksW (flushC p) ++ rest) := by
  obtain ⟨q, rfl⟩ : ∃ q, p = q + 1 := ⟨p - 1, by omega⟩
  have e2 : chunksW (flushC (q + 1)) = wordOf 0 (((q + 1 : Nat) : Int) - 1) 0 true :: List.replicate q 0 := by
    unfold flushC
    rw [if_neg hp]
    simp [chunksW, chkW, freeC]
  rw [e2, List.set_append_right _ _ (by omega), he, Nat.sub_self, List.replicate_succ, List.cons_append, List.set_cons_zero, List.cons_append]
theorem fold_gaps (N : Nat) : ∀ (rows : List (Nat × Chk)) (e : Nat) (pre : List Int), RowsOk N e rows → pre.length = e → (pgaps N e (ysOf rows) (lensOf rows)).foldl setG (pre ++ rawL N e rows) = pre ++ chunksW (laidC N e rows)
  | [], e, pre, h, hp => by
    have hle : e ≤ N := h
    simp only [ysOf, lensOf, List.map_nil, pgaps, rawL, laidC]
    by_cases hlt : (e : Int) < N
    · rw [if_pos hlt, List.foldl_cons, List.foldl_nil]
      unfold setG
      have := flush_set (pre := pre) (rest := []) (e := e) (p := N - e) hp (by omega)
      simp only [List.append_nil] at this
      rw [← this]
      simp only [Int.toNat_natCast]
      rw [show ((N - e : Nat) : Int) = (N : Int) - e by omega]
    · rw [if_neg hlt, List.foldl_nil]
      have : N - e = 0 := by omega
      rw [this]
      rfl
  | (y, c) :: t, e, pre, ⟨h1, h2, h2', h3⟩, hp => by
    have hle := RowsOk.le h3
    have ih := fold_gaps N t (y + c.len) (pre ++ (chunksW (flushC (y - e)) ++ chkW c)) h3 (by rw [List.length_append, List.length_append, flushC_length, chkW_length, hp]; omega)
    simp only [ysOf, lensOf, List.map_cons, pgaps, rawL, laidC]
    rw [List.foldl_append]
    have e1 : (if (e : Int) < (y : Int) then [(⟨e, (y : Int) - e⟩ : Rn)] else []).foldl setG (pre ++ (List.replicate (y - e) 0 ++ (chkW c ++ rawL N (y + c.len) t))) = pre ++ (chunksW (flushC (y - e)) ++ chkW c) ++ rawL N (y + c.len) t := by
      by_cases hlt : (e : Int) < y
      · rw [if_pos hlt, List.foldl_cons, List.foldl_nil]
        unfold setG
        have := flush_set (pre := pre) (rest := chkW c ++ rawL N (y + c.len) t) (e := e) (p := y - e) hp (by omega)
        simp only [Int.toNat_natCast]
        rw [show ((y - e : Nat) : Int) = (y : Int) - e by omega] at this
        rw [this]
        simp
      · rw [if_neg hlt, List.foldl_nil]
        have : y - e = 0 := by omega
        rw [this]
        simp [flushC, chunksW]
    rw [e1]
    have e2 : ((y : Int) + (c.len : Int)) = ((y + c.len : Nat) : Int) := by omega
    rw [e2]
    refine ih.trans ?_
    rw [chunksW_append, chunksW_cons]
    simp
theorem gapsP_laid (N : Nat) : ∀ (rows : List (Nat × Chk)) (e : Nat), RowsOk N e rows → gapsP e 0 (laidC N e rows) = pgaps N e (ysOf rows) (lensOf rows)
  | [], e, h => by
    have hle : e ≤ N := h
    simp only [ysOf, lensOf, List.map_nil, pgaps, laidC]
    unfold flushC
    by_cases hlt : (e : Int) < N
    · rw [if_neg (by omega), if_pos hlt]
      simp only [gapsP, freeC_f, if_true]
      rw [freeC_len (by omega)]
      unfold flushG
      rw [if_neg (by omega)]
      simp only [List.cons.injEq, Rn.mk.injEq, and_true]
      omega
    · rw [if_pos (by omega), if_neg hlt]
      rfl
  | (y, c) :: t, e, ⟨h1, h2, h2', h3⟩ => by
    have ih := gapsP_laid N t (y + c.len) h3
    simp only [ysOf, lensOf, List.map_cons, pgaps, laidC]
    rw [show ((y : Int) + (c.len : Int)) = ((y + c.len : Nat) : Int) by omega]
    unfold flushC
    by_cases hlt : (e : Int) < y
    · rw [if_neg (by omega), if_pos hlt]
      simp only [List.cons_append, List.nil_append, gapsP, freeC_f, if_true, h2']
      rw [freeC_len (by omega), Nat.zero_add, show e + (y - e) = y by omega]
      simp only [Bool.false_eq_true, if_false]
      unfold flushG
      rw [if_neg (show ¬ y - e = 0 by omega), ih, show y - (y - e) = e by omega, show ((y - e : Nat) : Int) = (y : Int) - e by omega]
      rfl
    · have : e = y := by omega
      subst this
      rw [if_pos (by omega), if_neg hlt]
      simp only [List.nil_append, gapsP, h2']
      unfold flushG
      rw [if_pos rfl, if_neg (by decide), ih]
      rfl
theorem rawL_snoc (N : Nat) (y : Nat) (c : Chk) : ∀ (rows : List (Nat × Chk)) (e : Nat) (pre : List Int), pre.length = e → RowsOk N e (rows ++ [(y, c)]) → pre ++ rawL N e (rows ++ [(y, c)]) = splice (pre ++ rawL N e rows) y (chkW c)
  | [], e, pre, hp, ⟨h1, h2, h2', h3⟩ => by
    have hle : y + c.len ≤ N := h3
    simp only [List.nil_append, rawL]
    unfold splice
    rw [chkW_length, List.take_append, List.take_of_length_le (by omega), List.drop_append, List.drop_of_length_le (by omega), List.nil_append, hp, List.take_replicate, List.drop_replicate, Nat.min_eq_left (by omega), show N - e - (y + c.len - e) = N - (y + c.len) by omega]
    simp
  | (z, d) :: t, e, pre, hp, ⟨h1, h2, h2', h3⟩ => by
    have := rawL_snoc N y c t (z + d.len) (pre ++ (List.replicate (z - e) 0 ++ chkW d)) (by rw [List.length_append, List.length_append, List.length_replicate, chkW_length, hp]; omega) h3
    simp only [List.cons_append, rawL]
    simpa using this
def kC (a : List Int) (φ : Int → Int) (s : Spot) : Chk := ⟨s.r, s.b, s.t, false, (refsOf a s).map (refT φ) ++ bodyOf a s⟩
def rowAt (a : List Int) (φ : Int → Int) (x : Int) : Chk := match spotAt (spotsL a) x with | some s => kC a φ s | none => ⟨0, 0, 0, false, []⟩
def posL (keep Y : List Int) (x : Int) : Int := Y.getD (idxL keep x).toNat 0
def rowsOf (a keep Y : List Int) : List (Nat × Chk) := List.zipWith (fun x y => (y.toNat, rowAt a (posL keep Y) x)) keep Y
theorem idxL_at {keep : List Int} (hn : keep.Nodup) {j : Nat} {x : Int} (hx : keep[j]? = some x) : idxL keep x = j := by
  refine ixOf_some hx (by simp) (fun y hy => ?_)
  rw [List.mem_take_iff_getElem] at hy
  obtain ⟨i, hi, rfl⟩ := hy
  obtain ⟨hj, rfl⟩ := List.getElem?_eq_some_iff.1 hx
  have := (List.nodup_iff_pairwise_ne.1 hn)
  have := List.pairwise_iff_getElem.1 this i j (by omega) hj (by omega)
  simp only [beq_eq_false_iff_ne]
  exact fun e => this e.symm
theorem posL_at {keep Y : List Int} (hn : keep.Nodup) {j : Nat} {x y : Int} (hx : keep[j]? = some x) (hy : Y[j]? = some y) : posL keep Y x = y := by
  unfold posL
  rw [idxL_at hn hx, Int.toNat_natCast, List.getD_eq_getElem?_getD, hy]
  rfl
theorem posL_map {keep Y : List Int} (hn : keep.Nodup) (hl : Y.length = keep.length) : keep.map (posL keep Y) = Y := by
  refine List.ext_getElem (by rw [List.length_map, hl]) (fun i h1 h2 => ?_)
  rw [List.getElem_map]
  rw [List.length_map] at h1
  exact posL_at hn (List.getElem?_eq_getElem h1) (List.getElem?_eq_getElem h2)
theorem posL_ex {keep Y : List Int} (hn : keep.Nodup) (hl : Y.length = keep.length) {x : Int} (hx : x ∈ keep) : ∃ (j : Nat) (y : Int), keep[j]? = some x ∧ Y[j]? = some y ∧ posL keep Y x = y := by
  obtain ⟨j, hj⟩ := List.mem_iff_getElem?.1 hx
  have hlt := (List.getElem?_eq_some_iff.1 hj).1
  have hy : Y[j]? = some (Y[j]'(by omega)) := List.getElem?_eq_getElem _
  exact ⟨j, _, hj, hy, posL_at hn hj hy⟩
theorem rowsOf_at {a keep Y : List Int} {j : Nat} {x y : Int} (hx : keep[j]? = some x) (hy : Y[j]? = some y) : (rowsOf a keep Y)[j]? = some (y.toNat, rowAt a (posL keep Y) x) := by
  unfold rowsOf
  rw [List.getElem?_zipWith, hx, hy]
theorem rowsOf_length {a keep Y : List Int} (hl : Y.length = keep.length) : (rowsOf a keep Y).length = keep.length := by
  unfold rowsOf
  rw [List.length_zipWith, hl, Nat.min_self]
theorem kC_ok {a : List Int} (φ : Int → Int) {s : Spot} (h : SpotOk a s) (hf : s.f = false) : (kC a φ s).ok ∧ ((kC a φ s).len : Int) = s.long ∧ (kC a φ s).pay.take (kC a φ s).r.toNat = (refsOf a s).map (refT φ) ∧ (kC a φ s).pay.drop (kC a φ s).r.toNat = bodyOf a s := by
  have h1 := refsOf_length h
  have h2 := bodyOf_length h
  have h3 := h.head
  have r0 := h.r0
  have b0 := h.b0
  rw [hf] at h3
  have hl : ((refsOf a s).map (refT φ) ++ bodyOf a s).length = s.r.toNat + s.b.toNat := by rw [List.length_append, List.length_map, h1, h2]
  refine ⟨⟨h3, ?_⟩, ?_, ?_, ?_⟩
  · show ((((refsOf a s).map (refT φ) ++ bodyOf a s).length : Nat) : Int) = s.r + s.b
    rw [hl]; omega
  · show (((1 + ((refsOf a s).map (refT φ) ++ bodyOf a s).length : Nat)) : Int) = s.long
    rw [hl]; unfold Spot.long; omega
  · show ((refsOf a s).map (refT φ) ++ bodyOf a s).take s.r.toNat = _
    rw [List.take_append_of_le_length (by rw [List.length_map, h1]; exact Nat.le_refl _), List.take_of_length_le (by rw [List.length_map, h1]; exact Nat.le_refl _)]
  · show ((refsOf a s).map (refT φ) ++ bodyOf a s).drop s.r.toNat = _
    rw [List.drop_append, List.drop_of_length_le (by rw [List.length_map, h1]; exact Nat.le_refl _), List.length_map, h1, Nat.sub_self]
    rfl
theorem rowAt_some {a : List Int} {φ : Int → Int} {x : Int} {s : Spot} (h : spotAt (spotsL a) x = some s) : rowAt a φ x = kC a φ s := by
  unfold rowAt
  rw [h]
structure LaidOk (a keep Y b : List Int) (N : Nat) : Prop where
  iso : Iso a b keep (posL keep Y)
  check : checkE b = 0
  len : b.length = N
  gaps : gapsL (spotsL b) = pgaps N 0 (ysOf (rowsOf a keep Y)) (lensOf (rowsOf a keep Y))
theorem laid_ok {a keep Y : List Int} {N : Nat} (h0 : spotsE a = 0) (hC : ClosedL a keep) (hn : keep.Nodup) (hl : Y.length = keep.length) (hN : N ≤ 256) (hY : ∀ y ∈ Y, 0 ≤ y) (hR : RowsOk N 0 (rowsOf a keep Y)) :
    LaidOk a keep Y (chunksW (laidC N 0 (rowsOf a keep Y))) N := by
  have hlen := laidC_length hR
  have hok := laidC_ok hR hN
  obtain ⟨-, hsp⟩ := chunks_spots hok (by omega)
  have hmem := parse_mem (parse_ok h0).2
  have hat : ∀ x ∈ keep, ∀ s, spotAt (spotsL a) x = some s → ∃ pre suf, laidC N 0 (rowsOf a keep Y) = pre ++ kC a (posL keep Y) s :: suf ∧ ((chunksW pre).length : Int) = posL keep Y x := by
    intro x hx s hs
    obtain ⟨j, y, hj, hy, e⟩ := posL_ex hn hl hx
    have hr := rowsOf_at (a := a) hj hy
    obtain ⟨pre, suf, e1, e2⟩ := laidC_split hR hr
    rw [rowAt_some hs] at e1
    refine ⟨pre, suf, e1, ?_⟩
    have := hY y (List.mem_of_getElem? hy)
    rw [e]
    omega
  have hiso : Iso a (chunksW (laidC N 0 (rowsOf a keep Y))) keep (posL keep Y) := by
    refine ⟨fun x hx => ?_, fun x hx y hy e => ?_, fun x hx s hs => ?_⟩
    · obtain ⟨j, y, -, hy, e⟩ := posL_ex hn hl hx
      rw [e]; exact hY y (List.mem_of_getElem? hy)
    · obtain ⟨j, u, hj, hu, e1⟩ := posL_ex hn hl hx
      obtain ⟨k, v, hk, hv, e2⟩ := posL_ex hn hl hy
      obtain ⟨s, hs⟩ := begsL_iff.1 (hC.begs x hx)
      obtain ⟨t, ht⟩ := begsL_iff.1 (hC.begs y hy)
      have r1 := rowsOf_at (a := a) hj hu
      have r2 := rowsOf_at (a := a) hk hv
      have hinc : ∀ (rows : List (Nat × Chk)) (e i j y z : Nat) (c d : Chk), RowsOk N e rows → i < j → rows[i]? = some (y, c) → rows[j]? = some (z, d) → e ≤ y ∧ y < z := by
        intro rows
        induction rows with
        | nil => intro e i j y z c d _ _ h; simp at h
        | cons p t ih =>
          obtain ⟨p1, p2⟩ := p
          rintro e i j y z c d ⟨h1, h2, h2', h3⟩ hij hi hj
          obtain ⟨j, rfl⟩ : ∃ j', j = j' + 1 := ⟨j - 1, by omega⟩
          rw [List.getElem?_cons_succ] at hj
          have hlow : ∀ (rows : List (Nat × Chk)) (e j z : Nat) (d : Chk), RowsOk N e rows → rows[j]? = some (z, d) → e ≤ z := by
            intro rows
            induction rows with
            | nil => intro e j z d _ h; simp at h
            | cons p t ih =>
              obtain ⟨p1, p2⟩ := p
              rintro e j z d ⟨h1, h2, h2', h3⟩ hj
              cases j with
              | zero => simp only [List.getElem?_cons_zero, Option.some.injEq, Prod.mk.injEq] at hj; omega
              | succ j => have := ih _ j z d h3 (by simpa using hj); omega
          have hp : 1 ≤ p2.len := by unfold Chk.len; omega
          cases i with
          | zero =>
            simp only [List.getElem?_cons_zero, Option.some.injEq, Prod.mk.injEq] at hi
            have := hlow t _ j z d h3 hj
            omega
          | succ i =>
            rw [List.getElem?_cons_succ] at hi
            have := ih _ i j y z c d h3 (by omega) hi hj
            omega
      have u0 := hY u (List.mem_of_getElem? hu)
      have v0 := hY v (List.mem_of_getElem? hv)
      rcases Nat.lt_trichotomy j k with h | h | h
      · have := hinc _ _ _ _ _ _ _ _ hR h r1 r2
        omega
      · subst h; rw [hj] at hk; exact Option.some.inj hk
      · have := hinc _ _ _ _ _ _ _ _ hR h r2 r1
        omega
    · obtain ⟨pre, suf, e1, e2⟩ := hat x hx s hs
      obtain ⟨hsS, hsf, -⟩ := spotAt_some hs
      obtain ⟨k1, k2, k3, k4⟩ := kC_ok (posL keep Y) (hmem s hsS).1 hsf
      have h1 := split_at pre suf (kC a (posL keep Y) s) rfl
      have h2 := split_refs pre suf (kC a (posL keep Y) s) k1
      rw [hsp, e1, ← e2]
      exact ⟨_, h1, rfl, rfl, rfl, h2.2.trans k4, h2.1.trans k3⟩
  refine ⟨hiso, ?_, by omega, ?_⟩
  · rw [checkE_chunks hok (by omega)]
    intro c hc v hv
    rcases laidC_mem hR c hc with ⟨q, -, -, rfl⟩ | ⟨y, hy⟩
    · simp [freeC] at hv
    · obtain ⟨j, hj⟩ := List.mem_iff_getElem?.1 hy
      have hjl : j < keep.length := by have := (List.getElem?_eq_some_iff.1 hj).1; rw [rowsOf_length hl] at this; exact this
      have hx : keep[j]? = some keep[j] := List.getElem?_eq_getElem hjl
      have hyy : Y[j]? = some (Y[j]'(by omega)) := List.getElem?_eq_getElem _
      have := rowsOf_at (a := a) hx hyy
      rw [hj] at this
      simp only [Option.some.injEq, Prod.mk.injEq] at this
      obtain ⟨-, rfl⟩ := this
      have hxk : keep[j] ∈ keep := List.getElem_mem hjl
      obtain ⟨s, hs⟩ := begsL_iff.1 (hC.begs _ hxk)
      obtain ⟨hsS, hsf, -⟩ := spotAt_some hs
      rw [rowAt_some hs] at hv
      rw [(kC_ok (posL keep Y) (hmem s hsS).1 hsf).2.2.1] at hv
      obtain ⟨u, hu, rfl⟩ := List.mem_map.1 hv
      by_cases hu0 : u = 0
      · left; unfold refT; rw [if_pos hu0]
      · right
        have hk := Iso.link_of hC hxk hs u hu hu0
        obtain ⟨t, ht⟩ := begsL_iff.1 (hC.begs _ hk)
        obtain ⟨t', ht', -⟩ := hiso.at_ _ hk t ht
        rw [hsp] at ht'
        rw [← starts_mem]
        obtain ⟨g1, g2, g3⟩ := spotAt_some ht'
        refine ⟨t', g1, ?_⟩
        unfold refT
        rw [if_neg hu0]
        simp [isPlace, g2, g3]
  · rw [hsp, gapsL_chunks hok]
    exact gapsP_laid N _ 0 hR
theorem reached_iso {a b L : List Int} {φ : Int → Int} {f : List Int} (h : Iso a b L φ) (hL0 : ∀ x ∈ L, 0 ≤ x) (hL : Reached a (spotsL a) f L) (hs : (L.map φ).Pairwise (fun x y => x ≤ y)) : Reached b (spotsL b) (f.map φ) (L.map φ) := by
  have hC : ClosedL a L := ⟨hL.begs, hL.closed, hL0⟩
  refine ⟨fun x hx => ?_, fun x hx => ?_, fun x hx y hy => ?_, fun X h1 h2 x hx => ?_, hs, ?_⟩
  · obtain ⟨z, hz, rfl⟩ := List.mem_map.1 hx
    obtain ⟨s, hs⟩ := begsL_iff.1 (hL.begs z hz)
    obtain ⟨s', hs', -⟩ := h.at_ z hz s hs
    exact begsL_iff.2 ⟨s', hs'⟩
  · obtain ⟨z, hz, rfl⟩ := List.mem_map.1 hx
    exact List.mem_map.2 ⟨z, hL.roots z hz, rfl⟩
  · obtain ⟨z, hz, rfl⟩ := List.mem_map.1 hx
    rw [h.links hC hz] at hy
    obtain ⟨u, hu, rfl⟩ := List.mem_map.1 hy
    exact List.mem_map.2 ⟨u, hL.closed z hz u hu, rfl⟩
  · obtain ⟨z, hz, rfl⟩ := List.mem_map.1 hx
    have := hL.least (fun x => x ∈ L ∧ X (φ x)) (fun x hx => ⟨hL.roots x hx, h1 _ (List.mem_map.2 ⟨x, hx, rfl⟩)⟩) (fun x ⟨hxL, hX⟩ y hy => ⟨hL.closed x hxL y hy, h2 _ hX _ (by
      rw [h.links hC hxL]
      exact List.mem_map.2 ⟨y, hy, rfl⟩)⟩) z hz
    exact this.2
  · have h1 := hL.once
    have h2 := h.inj
    clear hs hC hL
    rw [List.nodup_iff_pairwise_ne, List.pairwise_map]
    rw [List.nodup_iff_pairwise_ne] at h1
    exact h1.imp_of_mem (fun {x y} hx hy hne e => hne (h2 x hx y hy e))
end Go.Proofs.Ytgkoaambdejkdaa

namespace Go.Proofs.Ytgkoaambdejkdaa
open Go.RowKit
theorem rows_slid {a : List Int} {φ : Int → Int} (N : Nat) (pinned : List Int) : ∀ (keep L : List Int) (e : Nat), Kept N keep L → (∀ x, keep[0]? = some x → (e : Int) ≤ x) → e ≤ N →
    (∀ (j : Nat) (x k : Int), keep[j]? = some x → L[j]? = some k → (rowAt a φ x).ok ∧ (rowAt a φ x).f = false ∧ ((rowAt a φ x).len : Int) = k) →
    RowsOk N e (List.zipWith (fun x y => (y.toNat, rowAt a φ x)) keep (slidGo pinned e keep L)) ∧ ysOf (List.zipWith (fun x y => (y.toNat, rowAt a φ x)) keep (slidGo pinned e keep L)) = slidGo pinned e keep L ∧
      lensOf (List.zipWith (fun x y => (y.toNat, rowAt a φ x)) keep (slidGo pinned e keep L)) = L := by
  intro keep
  induction keep with
  | nil =>
    intro L e hK _ he _
    cases L with
    | nil => exact ⟨he, rfl, rfl⟩
    | cons n ls => have := hK.same; simp at this
  | cons x ks ih =>
    intro L e hK he heN hrow
    cases L with
    | nil => have := hK.same; simp at this
    | cons n ls =>
      obtain ⟨x0, n1, n2, hxn⟩ := hK.at_ 0 x n rfl rfl
      have hex := he x rfl
      obtain ⟨r1, r2, r3⟩ := hrow 0 x n rfl rfl
      obtain ⟨z, hz⟩ : ∃ z : Nat, (z : Int) = (if x ∈ pinned then x else (e : Int)) := by
        by_cases h : x ∈ pinned
        · rw [if_pos h]; exact ⟨x.toNat, by omega⟩
        · rw [if_neg h]; exact ⟨e, rfl⟩
      have hz1 : e ≤ z ∧ (z : Int) ≤ x := by
        by_cases h : x ∈ pinned
        · rw [if_pos h] at hz; omega
        · rw [if_neg h] at hz; omega
      have hY : slidGo pinned e (x :: ks) (n :: ls) = (z : Int) :: slidGo pinned ((z + (rowAt a φ x).len : Nat) : Int) ks ls := by
        simp only [slidGo]
        rw [← hz, show ((z + (rowAt a φ x).len : Nat) : Int) = (z : Int) + n by omega]
      obtain ⟨i1, i2, i3⟩ := ih ls (z + (rowAt a φ x).len) hK.tail (fun y hy => by have := hK.next 0 x n y rfl rfl (by simpa using hy); omega) (by omega) (fun j x' k h1 h2 => hrow (j + 1) x' k (by simpa using h1) (by simpa using h2))
      rw [hY, List.zipWith_cons_cons]
      simp only [ysOf, lensOf] at i2 i3 ⊢
      rw [List.map_cons, List.map_cons, i2, i3]
      refine ⟨⟨?_, r1, r2, ?_⟩, ?_, ?_⟩
      · rw [Int.toNat_natCast]; exact hz1.1
      · rw [Int.toNat_natCast]; exact i1
      · rw [Int.toNat_natCast]
      · rw [r3]
structure Planned (a keep pinned L Y : List Int) : Prop where
  nodup : keep.Nodup
  len : Y.length = keep.length
  lenL : L.length = keep.length
  nn : ∀ y ∈ Y, 0 ≤ y
  rows : RowsOk a.length 0 (rowsOf a keep Y)
  ys : ysOf (rowsOf a keep Y) = Y
  lens : lensOf (rowsOf a keep Y) = L
  begs : ∀ x ∈ keep, x ∈ begsL (spotsL a)
  nn2 : ∀ x ∈ keep, 0 ≤ x
  at_ : ∀ (j : Nat) (x y : Int), keep[j]? = some x → Y[j]? = some y → ∃ (s : Spot) (i : Nat), spotAt (spotsL a) x = some s ∧ atIx a x = i ∧ (spotsL a)[i]? = some s ∧ SpotOk a s ∧ y + s.long ≤ a.length ∧ L[j]? = some s.long ∧ 0 ≤ y ∧ y ≤ x
theorem pL_isBeg (x : Int) : pL x = isBeg x := by
  funext s
  unfold pL isBeg
  rw [Bool.and_comm]
theorem planned_of {a keep pinned : List Int} (hE : longsE a keep pinned = 0) : Planned a keep pinned (longsV a keep pinned) (slidGo pinned 0 keep (longsV a keep pinned)) := by
  obtain ⟨hK, hN⟩ := kept_of hE
  obtain ⟨h1, h2, h3, h4, h5⟩ := longsE_ok.1 hE
  have h0 := (checkE_ok.1 h1).1
  have hV : longsV a keep pinned = keep.map (longAt (spotsL a)) := by unfold longsV; rw [if_pos hE]
  have hspot : ∀ x ∈ keep, ∃ (s : Spot) (i : Nat), spotAt (spotsL a) x = some s ∧ atIx a x = i ∧ (spotsL a)[i]? = some s ∧ SpotOk a s ∧ longAt (spotsL a) x = s.long := by
    intro x hx
    obtain ⟨i, s, e1, e2, e3, e4, e5, e6, e7⟩ := spots_of_ix h0 (h4 x hx)
    refine ⟨s, i, ?_, e7, e2, e5, e6⟩
    unfold spotAt
    rw [← pL_isBeg]
    rcases ixOf_cases (pL x) (spotsL a) with ⟨f1, f2⟩ | ⟨i', s', f1, f2, f3, f4⟩
    · have := f2 s (List.mem_of_getElem? e2)
      simp [pL, e3, e4] at this
    · have : i' = i := by omega
      subst this
      obtain rfl := Option.some.inj (f2.symm.trans e2)
      rw [List.find?_eq_some_iff_append]
      refine ⟨f3, (spotsL a).take i', (spotsL a).drop (i' + 1), ?_, fun y hy => by simp [f4 y hy]⟩
      obtain ⟨q1, q2⟩ := List.getElem?_eq_some_iff.1 f2
      rw [← q2, ← List.drop_eq_getElem_cons q1, List.take_append_drop]
  have hn : keep.Nodup := by
    rw [List.nodup_iff_pairwise_ne]
    exact (risesP_pairwise h2).imp (fun h => by omega)
  have he : ∀ x, keep[0]? = some x → (0 : Int) ≤ x := fun x hx => by
    obtain ⟨s, i, e1, -, -, e4, -⟩ := hspot x (List.mem_of_getElem? hx)
    have := e4.loc0
    have := (spotAt_some e1).2.2
    omega
  have hS := slid_of a.length pinned keep (longsV a keep pinned) 0 hK he
  have hrows := rows_slid (a := a) (φ := posL keep (slidGo pinned 0 keep (longsV a keep pinned))) a.length pinned keep (longsV a keep pinned) 0 hK he (Nat.zero_le _) (fun j x k hx hk => by
    obtain ⟨s, i, e1, -, -, e4, e5⟩ := hspot x (List.mem_of_getElem? hx)
    rw [rowAt_some e1]
    obtain ⟨k1, k2, -, -⟩ := kC_ok (posL keep (slidGo pinned 0 keep (longsV a keep pinned))) e4 (spotAt_some e1).2.1
    refine ⟨k1, rfl, ?_⟩
    rw [hV, List.getElem?_map, hx] at hk
    have := Option.some.inj hk
    omega)
  refine ⟨hn, hS.len, hK.same, fun y hy => ?_, hrows.1, hrows.2.1, hrows.2.2, fun x hx => ?_, fun x hx => ?_, fun j x y hx hy => ?_⟩
  · obtain ⟨j, hj⟩ := List.mem_iff_getElem?.1 hy
    exact hS.low j y hj
  · obtain ⟨s, i, e1, -⟩ := hspot x hx
    exact begsL_iff.2 ⟨s, e1⟩
  · obtain ⟨s, i, e1, -, -, e4, -⟩ := hspot x hx
    have := e4.loc0
    have := (spotAt_some e1).2.2
    omega
  · obtain ⟨s, i, e1, e2, e3, e4, e5⟩ := hspot x (List.mem_of_getElem? hx)
    have hk : (longsV a keep pinned)[j]? = some s.long := by rw [hV, List.getElem?_map, hx, Option.map_some, e5]
    obtain ⟨g1, g2, g3, g4⟩ := hS.at_ j x y s.long hx hk hy
    exact ⟨s, i, e1, e2, e3, e4, g3, hk, hS.low j y hy, g1⟩
def nowM (keep Y : List Int) (j : Nat) : Int → Option Value := fun v => if v = 0 then some (.int .u64 0) else if v - 1 ∈ keep.take j then some (.int .u64 (posL keep Y (v - 1) + 1)) else none
theorem nowM_zero (keep Y : List Int) : nowM keep Y 0 = upd (fun _ => none) 0 (.int .u64 0) := by
  funext v
  simp [nowM, upd]
theorem nowM_succ {keep Y : List Int} (hn : keep.Nodup) {j : Nat} {x y : Int} (hx : keep[j]? = some x) (hy : Y[j]? = some y) (h0 : 0 ≤ x) : nowM keep Y (j + 1) = upd (nowM keep Y j) (x + 1) (.int .u64 (y + 1)) := by
  funext v
  unfold nowM upd
  obtain ⟨h1, h2⟩ := List.getElem?_eq_some_iff.1 hx
  rw [List.take_succ_eq_append_getElem h1, h2]
  by_cases hv : v = x + 1
  · subst hv
    rw [if_neg (by omega), if_pos rfl, show x + 1 - 1 = x by omega, if_pos (by simp), posL_at hn hx hy]
  · rw [if_neg hv]
    have : (v - 1 ∈ keep.take j ++ [x]) ↔ v - 1 ∈ keep.take j := by
      rw [List.mem_append, List.mem_singleton]
      exact ⟨fun h => h.resolve_right (by omega), .inl⟩
    simp only [this]
theorem nowM_at {keep Y : List Int} {v : Int} (h : v ≠ 0 → v - 1 ∈ keep) : nowM keep Y keep.length v = some (.int .u64 (refT (posL keep Y) v)) := by
  unfold nowM refT
  by_cases h0 : v = 0
  · rw [if_pos h0, if_pos h0]
  · rw [if_neg h0, if_neg h0, List.take_length, if_pos (h h0)]
end Go.Proofs.Ytgkoaambdejkdaa

namespace Go.Proofs.Ytgkoaambdejkdaa
open Go.RowKit
theorem splice_set {α : Type} {L cs : List α} {off k : Nat} (v : α) (h : off ≤ L.length) (hk : k < cs.length) : (splice L off cs).set (off + k) v = splice L off (cs.set k v) := by
  unfold splice
  rw [List.set_append_right _ _ (by rw [List.length_take]; omega), List.length_take, Nat.min_eq_left h, show off + k - off = k by omega, List.set_append_left _ _ hk, List.length_set]
theorem splice_at {α : Type} {L cs : List α} {off k : Nat} (h : off ≤ L.length) (hk : k < cs.length) : (splice L off cs)[off + k]? = cs[k]? := by
  unfold splice
  rw [List.getElem?_append_right (by rw [List.length_take]; omega), List.length_take, Nat.min_eq_left h, show off + k - off = k by omega, List.getElem?_append_left hk]
theorem splice_lenS {α : Type} {L cs : List α} {off : Nat} (h : off + cs.length ≤ L.length) : (splice L off cs).length = L.length := by
  unfold splice
  rw [List.length_append, List.length_append, List.length_take, List.length_drop]
  omega
theorem splice_map {α β : Type} (f : α → β) (L cs : List α) (off : Nat) : (splice L off cs).map f = splice (L.map f) off (cs.map f) := by
  unfold splice
  simp
theorem obj_words {a : List Int} {s : Spot} (h : SpotOk a s) : (a.drop s.loc.toNat).take s.long.toNat = wordOf s.r s.b s.t s.f :: (refsOf a s ++ bodyOf a s) := by
  have l0 := h.loc0
  have r0 := h.r0
  have b0 := h.b0
  have ft := h.fits
  unfold Spot.long at ft ⊢
  obtain ⟨h1, h2⟩ := List.getElem?_eq_some_iff.1 h.word
  rw [List.drop_eq_getElem_cons h1, h2, show (1 + s.r + s.b).toNat = (s.r.toNat + s.b.toNat) + 1 by omega, List.take_succ_cons]
  congr 1
  unfold refsOf bodyOf
  rw [List.take_add, List.drop_drop]
theorem zero_u64 (w : World) : (zeroValue 43).run Try.prog w = .ok (.int .u64 0) w := by kernel_rfl
theorem mid_set {Wd z : Int} {A rs bs : List Int} {q : Nat} (hA : A.length = q) (hq : q < rs.length) : (Wd :: (A ++ (rs.drop q ++ bs))).set (1 + q) z = Wd :: ((A ++ [z]) ++ (rs.drop (q + 1) ++ bs)) := by
  rw [Nat.add_comm 1 q, List.set_cons_succ, List.set_append_right _ _ (by omega), hA, Nat.sub_self, List.drop_eq_getElem_cons hq, List.cons_append, List.set_cons_zero]
  simp
end Go.Proofs.Ytgkoaambdejkdaa

namespace Go.Proofs.Ytgkoaambdejkdaa
open Go.RowKit
theorem info_intG : (Try.prog.info? 3).map (fun i => (i.zero, i.size, i.bytes)) = some (some (.int .i64 0), 1, 8) := by kernel_rfl
def fitsL (l : List Rn) (n : Int) : List Int := if fitsE l n = 0 then fitIx n 0 l else []
end Go.Proofs.Ytgkoaambdejkdaa

namespace Go.Proofs.Ytgkoaambdejkdaa
open Go.RowKit
end Go.Proofs.Ytgkoaambdejkdaa

namespace Go.Proofs.Ytgkoaambdejkdaa
open Go.RowKit
def gspotsL (a : List Int) : List Spot := if checkE a = 0 then spotsL a else []
end Go.Proofs.Ytgkoaambdejkdaa

namespace Go.Proofs.Ytgkoaambdejkdaa
open Go.RowKit
def firstV (l : List Rn) (n : Int) : Int := (fitsL l n).headD 0
def lenAt (l : List Rn) (i : Int) : Int := match l[i.toNat]? with | some r => r.len | none => 0
def bestGo (l : List Rn) (b : Int) : List Int → Int
  | [] => b
  | i :: t => bestGo l (if lenAt l i < lenAt l b then i else b) t
def bestV (l : List Rn) (n : Int) : Int := bestGo l (firstV l n) (fitsL l n)
theorem fitsL_mem {l : List Rn} {n x : Int} (h : x ∈ fitsL l n) : ∃ (j : Nat) (r : Rn), l[j]? = some r ∧ n ≤ r.len ∧ x = (j : Int) := by
  unfold fitsL at h
  split at h
  · obtain ⟨j, r, h1, h2, h3⟩ := fitIx_mem.1 h
    exact ⟨j, r, h1, h2, by simpa using h3⟩
  · cases h
theorem fitsL_bad {l : List Rn} {n : Int} (h : fitsE l n ≠ 0) : fitsL l n = [] := by unfold fitsL; rw [if_neg h]
theorem fitsL_ok {l : List Rn} {n : Int} (h : fitsE l n = 0) : fitsL l n = fitIx n 0 l ∧ fitIx n 0 l ≠ [] := by
  refine ⟨by unfold fitsL; rw [if_pos h], (fitsE_ok.1 h).2.2⟩
def ggL (a : List Int) : List Rn := if checkE a = 0 then gapsL (spotsL a) else []
theorem gspots_small (a : List Int) : (gspotsL a).length ≤ 256 ∧ (∀ s ∈ gspotsL a, headE s.r s.b s.t s.f = 0) ∧ (checkE a ≠ 0 → gspotsL a = []) ∧ gapsL (gspotsL a) = ggL a := by
  unfold gspotsL ggL
  by_cases h : checkE a = 0
  · rw [if_pos h, if_pos h]
    refine ⟨spotsL_length a, fun s hs => ((parse_mem (parse_ok (checkE_ok.1 h).1).2) s hs).1.head, fun h2 => absurd h h2, rfl⟩
  · rw [if_neg h, if_neg h]
    exact ⟨by simp, by simp, fun _ => rfl, rfl⟩
theorem holes_facts : fitsE [⟨0, 1⟩, ⟨2, 3⟩] 2 = 0 ∧ firstV [⟨0, 1⟩, ⟨2, 3⟩] 2 = 1 := by decide
theorem holes_facts2 : checkE [281474976710656] = 0 ∧ (ggL [281474976710656]).length = 1 := by decide
end Go.Proofs.Ytgkoaambdejkdaa

namespace Go.Proofs.Ytgkoaambdejkdaa
open Go.RowKit
set_option maxHeartbeats 400000 in
theorem small_any (w : World) : Calls Try.prog 35 #[] w fun e w' => e = .returned (.slice (some ⟨w.heap.size, 0, none⟩) 2 2) ∧ w' = w.alloc (.cells #[.int .u64 1, .int .u64 1] 43) := by
  go_enter Try.func35, Try.ntmps35
  go_wp2
  go_ret
  exact ⟨rfl, rfl⟩
theorem small_reads (w : World) : Reads (w.alloc (.cells #[.int .u64 1, .int .u64 1] 43)) (w.alloc (.cells #[.int .u64 1, .int .u64 1] 43)).heap.size 1 (some ⟨w.heap.size, 0, none⟩) 2 ([1, 1].map (.int .u64)) := by
  have := reads_new w ([1, 1].map (.int .u64)) 43 2 1 rfl
  simpa using this
theorem small_wf : ∀ x ∈ ([1, 1] : List Int), (Lit.int .u64 x).wf = true := by decide
theorem small_spots : spotsE [1, 1] = 0 ∧ spotsL [1, 1] = [⟨0, 1, 0, 0, false⟩] := by decide
end Go.Proofs.Ytgkoaambdejkdaa

namespace Go.Proofs.Ytgkoaambdejkdaa
open Go.RowKit
def Else (w w' : World) (g : Nat) (row : Option Nat) : Prop := w.heap.size ≤ w'.heap.size ∧ ∀ k, k < w.heap.size → k ≠ g → row ≠ some k → w'.heap[k]? = w.heap[k]?
theorem own_else {w w' : World} {g : Nat} {row : Option Nat} {base : Nat} {e : TypeId} {size n : Nat} {v : Value} {xs : List Value} (h : w.ownsRow base e size v n xs) (hE : Else w w' g row) (h1 : ∀ k, v.ownBlock = some k → k ≠ g ∧ row ≠ some k) : w'.ownsRow base e size v n xs := by
  refine ⟨h.1, ?_⟩
  rcases h.2 with h2 | ⟨g', cap, cur, hv, hb, hh, rest⟩
  · exact .inl h2
  · refine .inr ⟨g', cap, cur, hv, hb, ?_, rest⟩
    obtain ⟨a1, a2⟩ := h1 g' (by subst hv; rfl)
    rw [hE.2 g' (Array.getElem?_eq_some_iff.1 hh).1 a1 a2]
    exact hh
def addG (acc : List Rn) (e x : Int) : List Rn := if e < x then acc ++ [⟨e, x - e⟩] else acc
theorem own_types2 {w : World} {base base' size size' n n' : Nat} {e e' : TypeId} {v v' : Value} {xs xs' : List Value} (h : w.ownsRow base e size v n xs) (h' : w.ownsRow base' e' size' v' n' xs') (hne : e ≠ e') {g : Nat} (hg : v.ownBlock = some g) : v'.ownBlock ≠ some g := by
  intro hg'
  rcases h.2 with ⟨rfl, _⟩ | ⟨g1, cap, cur, rfl, _, hh, _⟩
  · cases hg
  · rcases h'.2 with ⟨rfl, _⟩ | ⟨g2, cap2, cur2, rfl, _, hh2, _⟩
    · cases hg'
    · simp only [Value.ownBlock, Option.some.injEq] at hg hg'
      subst hg hg'
      rw [hh] at hh2
      injection hh2 with hh2
      injection hh2 with _ ht
      exact hne ht
theorem addL_eq (acc : List Rn) (e x : Int) : addG acc e x = acc ++ (if e < x then [⟨e, x - e⟩] else []) := by
  unfold addG
  split <;> simp
theorem addL_length (acc : List Rn) (e x : Int) : (addG acc e x).length ≤ acc.length + 1 := by
  unfold addG
  split <;> simp
theorem plans_facts : longsE [1, 1] [] [] = 0 ∧ longsV [1, 1] [] [] = [] ∧ (pgaps (2 : Nat) 0 [] []).length = 1 := by decide
end Go.Proofs.Ytgkoaambdejkdaa

namespace Go.Proofs.Ytgkoaambdejkdaa
open Go.RowKit
def slidW (a keep pinned : List Int) : List Int := chunksW (laidC a.length 0 (rowsOf a keep (slidGo pinned 0 keep (longsV a keep pinned))))
end Go.Proofs.Ytgkoaambdejkdaa
