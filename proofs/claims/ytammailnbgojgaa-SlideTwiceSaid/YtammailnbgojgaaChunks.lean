/-
  Plain law: an arena as its objects, one behind the other. No program stands here.
-/
import Derived.Test.YtammailnbgojgaaArena2
namespace Go.Proofs.Ytammailnbgojgaa
open Go.RowKit

theorem rdw_word (r b t : Int) (f : Bool) (h : headE r b t f = 0) : readOk (wordOf r b t f) ∧ rdR (wordOf r b t f) = r ∧ rdB (wordOf r b t f) = b ∧ rdT (wordOf r b t f) = t ∧ rdF (wordOf r b t f) = f ∧ 0 ≤ wordOf r b t f ∧ wordOf r b t f < 18446744073709551616 := by
  obtain ⟨h1, h2, h3, h4, h5, h6, h7, h8⟩ := headE_ok.1 h
  have hF : (if f then 281474976710656 else 0 : Int) = 0 ∧ f = false ∨ (if f then 281474976710656 else 0 : Int) = 281474976710656 ∧ f = true := by cases f <;> simp
  have e1 : rdR (wordOf r b t f) = r := by unfold rdR wordOf; rcases hF with ⟨h, _⟩ | ⟨h, _⟩ <;> rw [h] <;> omega
  have e2 : rdB (wordOf r b t f) = b := by unfold rdB wordOf; rcases hF with ⟨h, _⟩ | ⟨h, _⟩ <;> rw [h] <;> omega
  have e3 : rdT (wordOf r b t f) = t := by unfold rdT wordOf; rcases hF with ⟨h, _⟩ | ⟨h, _⟩ <;> rw [h] <;> omega
  have e4 : rdF (wordOf r b t f) = f := by
    unfold rdF wordOf
    rcases hF with ⟨h, h'⟩ | ⟨h, h'⟩
    · rw [h, h', decide_eq_false]; omega
    · rw [h, h', decide_eq_true]; omega
  have e5 : 0 ≤ wordOf r b t f ∧ wordOf r b t f < 562949953421312 := by unfold wordOf; rcases hF with ⟨h, _⟩ | ⟨h, _⟩ <;> rw [h] <;> omega
  refine ⟨⟨by omega, by rw [e1, e2, e3, e4]; exact h⟩, e1, e2, e3, e4, e5.1, by omega⟩

structure Chk where
  r : Int
  b : Int
  t : Int
  f : Bool
  pay : List Int
def Chk.ok (c : Chk) : Prop := headE c.r c.b c.t c.f = 0 ∧ (c.pay.length : Int) = c.r + c.b
def chkW (c : Chk) : List Int := wordOf c.r c.b c.t c.f :: c.pay
def chunksW (cs : List Chk) : List Int := cs.flatMap chkW
def Chk.spot (i : Nat) (c : Chk) : Spot := ⟨i, c.r, c.b, c.t, c.f⟩
def Chk.len (c : Chk) : Nat := 1 + c.pay.length
def spotsFrom : Nat → List Chk → List Spot
  | _, [] => []
  | i, c :: cs => c.spot i :: spotsFrom (i + c.len) cs

theorem chkW_length (c : Chk) : (chkW c).length = c.len := by simp [chkW, Chk.len]; omega
theorem chunksW_cons (c : Chk) (cs : List Chk) : chunksW (c :: cs) = chkW c ++ chunksW cs := rfl
theorem chunksW_append (cs ds : List Chk) : chunksW (cs ++ ds) = chunksW cs ++ chunksW ds := by simp [chunksW]
theorem Chk.long {c : Chk} (h : c.ok) (i : Nat) : (c.spot i).long = c.len := by
  have := h.2
  simp only [Spot.long, Chk.spot, Chk.len]
  omega

theorem parse_chunks {a : List Int} : ∀ {l : List Spot} {i : Nat}, Parse a i l → ∃ cs : List Chk, (∀ c ∈ cs, c.ok) ∧ a.drop i = chunksW cs ∧ l = spotsFrom i cs := by
  intro l
  induction l with
  | nil =>
    intro i h
    obtain rfl : i = a.length := h
    exact ⟨[], by simp, by simp [chunksW], rfl⟩
  | cons s l ih =>
    rintro i ⟨h1, h2, rfl, h4, h5⟩
    obtain ⟨cs, hok, hd, rfl⟩ := ih h5
    have hE := headE_ok.1 h2.2
    have hl : hlen (a.getD i 0) = 1 + (rdR (a.getD i 0) + rdB (a.getD i 0)).toNat := by unfold hlen; omega
    have hv : a[i] = a.getD i 0 := by rw [List.getD_eq_getElem?_getD, List.getElem?_eq_getElem h1]; rfl
    have hdrop := List.drop_eq_getElem_cons h1
    have hw := readOk_word h2
    rw [hv] at hdrop
    generalize a.getD i 0 = v at *
    have hpl : ((a.drop (i + 1)).take (hlen v - 1)).length = hlen v - 1 := by rw [List.length_take, List.length_drop]; omega
    have hcl : Chk.len ⟨rdR v, rdB v, rdT v, rdF v, (a.drop (i + 1)).take (hlen v - 1)⟩ = hlen v := by
      unfold Chk.len
      rw [hpl]
      omega
    refine ⟨⟨rdR v, rdB v, rdT v, rdF v, (a.drop (i + 1)).take (hlen v - 1)⟩ :: cs, ?_, ?_, ?_⟩
    · intro c hc
      rcases List.mem_cons.1 hc with rfl | hc
      · refine ⟨h2.2, ?_⟩
        dsimp only
        rw [hpl]
        omega
      · exact hok c hc
    · rw [chunksW_cons, chkW]
      dsimp only
      rw [hw, ← hd, hdrop, List.cons_append]
      congr 1
      have h9 := List.take_append_drop (hlen v - 1) (a.drop (i + 1))
      rw [List.drop_drop, show i + 1 + (hlen v - 1) = i + hlen v by omega] at h9
      exact h9.symm
    · simp only [spotsFrom]
      rw [hcl]
      rfl

theorem chunks_parse : ∀ (cs : List Chk) (pre : List Int), (∀ c ∈ cs, c.ok) → Parse (pre ++ chunksW cs) pre.length (spotsFrom pre.length cs) := by
  intro cs
  induction cs with
  | nil => intro pre _; show _ = _; simp [chunksW]
  | cons c cs ih =>
    intro pre hok
    have hc := hok c List.mem_cons_self
    obtain ⟨w1, w2, w3, w4, w5, -⟩ := rdw_word c.r c.b c.t c.f hc.1
    have hg : (pre ++ chunksW (c :: cs)).getD pre.length 0 = wordOf c.r c.b c.t c.f := by
      rw [List.getD_eq_getElem?_getD, chunksW_cons, chkW, List.getElem?_append_right (Nat.le_refl _)]
      simp
    have hE := headE_ok.1 hc.1
    have hh : hlen (wordOf c.r c.b c.t c.f) = c.len := by
      have := hc.2
      unfold hlen Chk.len
      rw [w2, w3]
      omega
    have hL : (pre ++ chunksW (c :: cs)).length = pre.length + c.len + (chunksW cs).length := by rw [chunksW_cons, List.length_append, List.length_append, chkW_length]; omega
    have hpos : 1 ≤ c.len := by unfold Chk.len; omega
    refine ⟨by rw [hL]; omega, by rw [hg]; exact w1, ?_, by rw [hg, hh, hL]; omega, ?_⟩
    · rw [hg]
      simp only [spotOf, Chk.spot]
      rw [w2, w3, w4, w5]
    · rw [hg, hh]
      have := ih (pre ++ chkW c) (fun d hd => hok d (List.mem_cons_of_mem _ hd))
      rw [List.length_append, chkW_length, List.append_assoc] at this
      exact this

theorem chunks_spots {cs : List Chk} (hok : ∀ c ∈ cs, c.ok) (hl : (chunksW cs).length ≤ 256) : spotsE (chunksW cs) = 0 ∧ spotsL (chunksW cs) = spotsFrom 0 cs := by
  have h := spotsAt_parse _ _ _ (chunks_parse cs [] hok)
  simp only [List.nil_append, List.length_nil] at h
  have hn : ¬ 256 < (chunksW cs).length := by omega
  unfold spotsE spotsL
  rw [h, if_neg hn, if_neg hn]
  exact ⟨rfl, rfl⟩
theorem arena_chunks {a : List Int} (h : spotsE a = 0) : ∃ cs : List Chk, (∀ c ∈ cs, c.ok) ∧ a = chunksW cs ∧ spotsL a = spotsFrom 0 cs ∧ a.length ≤ 256 := by
  obtain ⟨h1, h2⟩ := parse_ok h
  obtain ⟨cs, hok, hd, hs⟩ := parse_chunks h2
  exact ⟨cs, hok, by simpa using hd, hs, h1⟩

/-- The names of the objects that are not free. -/
def starts : Nat → List Chk → List Int
  | _, [] => []
  | i, c :: cs => (if c.f then [] else [(i : Int) + 1]) ++ starts (i + c.len) cs

theorem placeC_some {l : List Spot} {v : Int} : (placeF l v).isSome = true ↔ v = 0 ∨ ∃ s ∈ l, isPlace v s = true := by
  unfold placeF
  by_cases h : v = 0
  · simp [h]
  · rw [if_neg h, Option.isSome_map]
    rw [List.findIdx?_isSome]
    simp [h]
theorem starts_mem {v : Int} : ∀ (cs : List Chk) (i : Nat), (∃ s ∈ spotsFrom i cs, isPlace v s = true) ↔ v ∈ starts i cs := by
  intro cs
  induction cs with
  | nil => intro i; simp [spotsFrom, starts]
  | cons c cs ih =>
    intro i
    simp only [spotsFrom, starts, List.mem_cons, List.mem_append]
    rw [← ih (i + c.len)]
    constructor
    · rintro ⟨s, rfl | hs, hp⟩
      · left
        simp only [isPlace, Chk.spot, Bool.and_eq_true, Bool.not_eq_true', beq_iff_eq] at hp
        rw [hp.1, if_neg (by decide)]
        rw [List.mem_singleton, hp.2]
      · right; exact ⟨s, hs, hp⟩
    · rintro (h | ⟨s, hs, hp⟩)
      · refine ⟨_, .inl rfl, ?_⟩
        cases hf : c.f
        · rw [hf, if_neg (by decide), List.mem_singleton] at h
          simp [isPlace, Chk.spot, hf, h]
        · rw [hf, if_pos rfl] at h
          cases h
      · exact ⟨s, .inr hs, hp⟩

theorem refs_all (P : Int → Bool) : ∀ (cs : List Chk) (pre : List Int), (∀ c ∈ cs, c.ok) → ((spotsFrom pre.length cs).all (fun s => (refsOf (pre ++ chunksW cs) s).all P) = true ↔ ∀ c ∈ cs, ∀ v ∈ c.pay.take c.r.toNat, P v = true) := by
  intro cs
  induction cs with
  | nil => intro pre _; simp [spotsFrom]
  | cons c cs ih =>
    intro pre hok
    have hc := hok c List.mem_cons_self
    have hE := headE_ok.1 hc.1
    have hp := hc.2
    have h1 : refsOf (pre ++ chunksW (c :: cs)) (c.spot pre.length) = c.pay.take c.r.toNat := by
      simp only [refsOf, Chk.spot, Int.toNat_natCast]
      rw [chunksW_cons, chkW, List.drop_append, List.drop_of_length_le (by omega), List.nil_append, show pre.length + 1 - pre.length = 1 by omega, List.cons_append, List.drop_succ_cons, List.drop_zero, List.take_append_of_le_length (by omega)]
    have h2 := ih (pre ++ chkW c) (fun d hd => hok d (List.mem_cons_of_mem _ hd))
    rw [List.length_append, chkW_length, List.append_assoc, ← chunksW_cons] at h2
    simp only [spotsFrom, List.all_cons, Bool.and_eq_true, List.forall_mem_cons]
    rw [h1, h2, List.all_eq_true]

/-- The references are right: each names an object that is not free. -/
def refsC (cs : List Chk) : Prop := ∀ c ∈ cs, ∀ v ∈ c.pay.take c.r.toNat, v = 0 ∨ v ∈ starts 0 cs
theorem chunks_refs {cs : List Chk} (hok : ∀ c ∈ cs, c.ok) : refsOk (spotsFrom 0 cs) (chunksW cs) = true ↔ refsC cs := by
  have := refs_all (fun v => (placeF (spotsFrom 0 cs) v).isSome) cs [] hok
  simp only [List.length_nil, List.nil_append] at this
  unfold refsOk refsC
  rw [this]
  constructor
  · intro h c hc v hv
    have := placeC_some.1 (h c hc v hv)
    rwa [starts_mem] at this
  · intro h c hc v hv
    have := h c hc v hv
    rw [← starts_mem] at this
    exact placeC_some.2 this
theorem checkE_chunks {cs : List Chk} (hok : ∀ c ∈ cs, c.ok) (hl : (chunksW cs).length ≤ 256) : checkE (chunksW cs) = 0 ↔ refsC cs := by
  obtain ⟨h1, h2⟩ := chunks_spots hok hl
  rw [checkE_ok, h2, chunks_refs hok]
  exact ⟨fun h => h.2, fun h => ⟨h1, h⟩⟩
theorem check_chunks {a : List Int} (h : checkE a = 0) : ∃ cs : List Chk, (∀ c ∈ cs, c.ok) ∧ a = chunksW cs ∧ spotsL a = spotsFrom 0 cs ∧ a.length ≤ 256 ∧ refsC cs := by
  obtain ⟨cs, h1, h2, h3, h4⟩ := arena_chunks (checkE_ok.1 h).1
  subst h2
  exact ⟨cs, h1, rfl, h3, h4, (checkE_chunks h1 h4).1 h⟩
end Go.Proofs.Ytammailnbgojgaa
