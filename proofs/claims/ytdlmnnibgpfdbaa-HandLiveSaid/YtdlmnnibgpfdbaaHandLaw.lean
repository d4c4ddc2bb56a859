/-
  What the laws on handles share: 'hands' answers true; Look as one function; plain facts on names.
-/
import Derived.Test.YtdlmnnibgpfdbaaHandOpen
namespace Go.Proofs.Ytdlmnnibgpfdbaa
open Go.RowKit

set_option maxHeartbeats 400000 in
theorem hands_true (w : World) : Calls Try.prog 9 #[] w fun e w' => e = .returned (.bool true) ∧ Below w.heap.size w w' := by
  have H := open_ok (some ⟨w.heap.size, 0, none⟩) 1 1 _ [⟨0, false, 0⟩] 3 0 ⟨0, false, 0⟩ (w.alloc (.cells #[.int .i64 0, .bool false, .int .i64 0] 82)) (reads_new w (slotsC [⟨0, false, 0⟩]) 82 1 3 rfl) (by simp) (by decide) (by decide) rfl (by decide)
  have HH := Lib.hid H
  clear H
  go_enter Try.func9, Try.ntmps9
  go_wp2_with (go_at_call 40; refine HH.out.mono ?_; rintro e w' ⟨hb, A', c', rfl, hown⟩; clear hown)
  go_ret
  exact ⟨rfl, below_step (below_new _ _) hb⟩

/-- The slot that a name finds, if any. -/
def findS (l : List Slot) (v : Int) : Option Slot :=
  match l[(v % 65536).toNat]? with
  | some s => if s.opn = true ∧ v % 65536 + s.gen * 65536 = v then some s else none
  | none => none

theorem findS_some {l : List Slot} {v : Int} {s : Slot} : findS l v = some s ↔ Found l v (v % 65536).toNat s := by
  unfold findS Found
  have e : ((v % 65536).toNat : Int) = v % 65536 := by omega
  rw [e]
  cases h : l[(v % 65536).toNat]? with
  | none => simp
  | some t =>
    dsimp only
    split
    · rename_i hc
      constructor
      · intro hh; cases hh; exact ⟨rfl, rfl, hc.1, hc.2⟩
      · rintro ⟨_, h2, _, _⟩; exact h2
    · rename_i hc
      constructor
      · intro hh; cases hh
      · rintro ⟨_, h2, h3, h4⟩
        cases h2
        exact absurd ⟨h3, h4⟩ hc

theorem found_findS {l : List Slot} {v : Int} {i : Nat} {s : Slot} (h : Found l v i s) : findS l v = some s := by
  rw [findS_some]
  have : (v % 65536).toNat = i := by have := h.1; omega
  rw [this]
  exact h

def lookV (l : List Slot) (v : Int) : Int := if handE l ≠ 0 then 0 else match findS l v with | some s => s.loc | none => 0
def lookE (l : List Slot) (v : Int) : Int := if handE l ≠ 0 then handE l else match findS l v with | some _ => 0 | none => 9

theorem look_any (A : Option Addr) (n c B : Nat) (l : List Slot) (v : Int) (w : World) (hr : Reads w B 3 A n (slotsC l)) (hB : B ≤ w.heap.size) (v0 : 0 ≤ v) (v1 : v < 18446744073709551616) :
    Calls Try.prog 11 #[.slice A n c, .int .u64 v] w fun e w' => e = .returned (.tuple #[.int .i64 (lookV l v), .int .i64 (lookE l v)]) ∧ Below w.heap.size w w' := by
  unfold lookV lookE
  by_cases hE : handE l = 0
  · rw [if_neg (by simpa using hE), if_neg (by simpa using hE)]
    cases h : findS l v with
    | some s => exact look_ok A n c B l v _ s w hr hB hE v0 v1 (findS_some.1 h)
    | none => exact look_stale A n c B l v w hr hB hE v0 v1 (fun i s hf => by rw [found_findS hf] at h; cases h)
  · rw [if_pos hE, if_pos hE]
    exact look_bad A n c B l v w hr hB hE

/-- A slot is set to one that is in order: the slots stay in order. -/
theorem handE_set {l : List Slot} {i : Nat} {s : Slot} (h : handE l = 0) (hs : slotE s = 0) : handE (l.set i s) = 0 := by
  rw [handE_ok] at h ⊢
  refine ⟨by simpa using h.1, fun x hx => ?_⟩
  rcases List.mem_or_eq_of_mem_set hx with h2 | rfl
  · exact h.2 x h2
  · exact hs

theorem slotE_of {l : List Slot} {i : Nat} {s : Slot} (h : handE l = 0) (hs : l[i]? = some s) : slotE s = 0 := (handE_ok.1 h).2 s (List.mem_of_getElem? hs)

/-- The name that a slot gets when it is opened finds it. -/
theorem found_opened {l : List Slot} {i : Nat} {s : Slot} {loc : Int} (hl : l.length ≤ 16) (hs : l[i]? = some s) : Found (l.set i ⟨s.gen + 1, true, loc⟩) (i + (s.gen + 1) * 65536) i ⟨s.gen + 1, true, loc⟩ := by
  have hi := (List.getElem?_eq_some_iff.1 hs).1
  exact ⟨by omega, by simp [hi], rfl, rfl⟩

theorem found_kept {l : List Slot} {i j : Nat} {s t u : Slot} {v : Int} (hs : l[i]? = some s) (hc : s.opn = false) (hf : Found l v j t) : Found (l.set i u) v j t := by
  obtain ⟨h1, h2, h3, h4⟩ := hf
  have hne : i ≠ j := by
    rintro rfl
    rw [hs] at h2
    cases h2
    rw [hc] at h3
    cases h3
  exact ⟨h1, by rw [List.getElem?_set_ne hne]; exact h2, h3, h4⟩

theorem notfound_closed {l : List Slot} {i : Nat} {u : Slot} {v : Int} (hi : v % 65536 = (i : Int)) (hc : u.opn = false) : findS (l.set i u) v = none := by
  cases h : findS (l.set i u) v with
  | none => rfl
  | some s =>
    obtain ⟨_, h2, h3, _⟩ := findS_some.1 h
    have e : (v % 65536).toNat = i := by omega
    rw [e, List.getElem?_set_self'] at h2
    cases h5 : l[i]? with
    | none => rw [h5] at h2; cases h2
    | some t =>
      rw [h5] at h2
      cases h2
      exact absurd (show u.opn = true from h3) (by rw [hc]; decide)
end Go.Proofs.Ytdlmnnibgpfdbaa
