/-
  package tint: the marker: all that one object names is marked.
-/
import Derived.Test.YtbmkbnalembbjaaDoorBoundMark
import Derived.Test.YtbmkbnalembbjaaDoorTintEachM
namespace Go.Proofs.YtbmkbnalembbjaaDoor
open Go.RowKit

theorem passes_mark (room : Nat) (m : Mk) (x : Int) : (m.mark room x).passes = m.passes := by
  unfold Mk.mark
  split
  · rfl
  · split <;> rfl
theorem passes_all (room : Nat) : ∀ (l : List Int) (m : Mk), (l.foldl (Mk.mark room) m).passes = m.passes
  | [], _ => rfl
  | x :: l, m => (passes_all room l (m.mark room x)).trans (passes_mark room m x)
/-- What the walk keeps of the marker: st ahead, st' behind. -/
structure MkTo (room : Nat) (L : List Int) (lk : Int → List Int) (D : Int → Prop) (st st' : Mk) : Prop where
  ok : MkOk room L st'
  at_ : MkAt lk D st'
  more : ∀ y ∈ st.M, y ∈ st'.M
  passes : st'.passes = st.passes
  left : st'.left L.length ≤ st.left L.length

theorem mkEach_any (w0 : World) (gh b : Nat) (A Ah : Option Addr) (n c kh ch : Nat) (a : List Int) (HO : HeapOk w0 gh b A Ah n c kh ch a) (nm room : Nat) (hnm : nm = (n + 63) / 64) (hrm : room ≤ 256) (L : List Int) (hLb : ∀ x ∈ L, x ∈ begsL (spotsL a)) (hLc : ∀ x ∈ L, ∀ y ∈ linksAt a (spotsL a) x, y ∈ L)
    (D : Int → Prop) (st : Mk) (w : World) (h : MarkSt w0 gh nm (spotsL a) room st w) (hok : MkOk room L st) (x : Int) (hx : x ∈ L) (hat : MkAt (linksAt a (spotsL a)) (fun y => D y ∨ y = x) st) :
    Calls Tryd.prog 19 #[.pointer (some ⟨gh, 0, none⟩), .int .i64 x, .func (.func 16) #[.pointer (some ⟨w0.heap.size, 0, none⟩)] #[]] w fun e w' => e = .returned (.tuple #[]) ∧ ∃ st', MarkSt w0 gh nm (spotsL a) room st' w' ∧ MkTo room L (linksAt a (spotsL a)) D st st' := by
  have hb := h.below
  have h0 := HO.spots
  obtain ⟨s, hs⟩ := begsL_iff.1 (hLb x hx)
  obtain ⟨hsS, -, hsl⟩ := spotAt_some hs
  have sok := (parse_mem (parse_ok h0).2 s hsS).1
  have hlk : linksAt a (spotsL a) x = linksL a s := by unfold linksAt; rw [hs]
  have hll : ∀ y ∈ linksL a s, y ∈ L := fun y hy => hLc x hx y (by rw [hlk]; exact hy)
  have hbb := begsL_bounds h0
  have hE := eachM_any 16 (.pointer (some ⟨w0.heap.size, 0, none⟩)) gh b w0.heap.size A Ah n c kh ch a (spotsL a) s w (HO.blk.below hb HO.blk.lt) (HO.map.below hb HO.map.lt) (by rw [hsl]; exact hs) sok (HO.reads.below hb) HO.fits HO.few (plain_of (fn := Tryd.f16) Tryd.func16 (by kernel_rfl) (by kernel_rfl))
    (fun v hv => by
      by_cases hv0 : v = 0
      · exact .inl hv0
      · have h1 : v - 1 ∈ linksL a s := List.mem_map.2 ⟨v, List.mem_filter.2 ⟨hv, by simpa using hv0⟩, rfl⟩
        have := hbb _ (hLb _ (hll _ h1))
        exact .inr (by omega))
    (fun l w' => (∀ y ∈ l, y ∈ linksL a s) ∧ MarkSt w0 gh nm (spotsL a) room (l.foldl (Mk.mark room) st) w')
    ⟨by simp, h⟩ (fun l w' q h => ⟨h.1, h.2.drewN q⟩) (fun l w' h => HO.reads.below h.2.below)
    (fun l y w' h hy => by
      obtain ⟨q1, q2, -, -⟩ := marks_all (room := room) (lk := linksAt a (spotsL a)) l hok hat (fun z hz => hll z (h.1 z hz))
      have hyL := hll y hy
      have hyb := hbb y (hLb y hyL)
      obtain ⟨k, rfl⟩ := Int.eq_ofNat_of_zero_le hyb.1
      refine (mkMark_any w0 gh b A Ah n c kh ch a HO nm room hnm hrm _ w' h.2 (fun z hz => hLb z (q1.sub z hz)) q1.fits k (hLb _ hyL)).mono ?_
      rintro e w'' ⟨rfl, h3⟩
      refine ⟨rfl, fun z hz => ?_, by rw [List.foldl_append]; exact h3⟩
      rcases List.mem_append.1 hz with hz | hz
      · exact h.1 z hz
      · simp only [List.mem_cons, List.not_mem_nil, or_false] at hz
        subst hz; exact hy)
  rw [hsl] at hE
  refine hE.mono ?_
  rintro e w' ⟨rfl, -, h3⟩
  obtain ⟨q1, q2, q3, q4⟩ := marks_all (room := room) (lk := linksAt a (spotsL a)) (linksL a s) hok hat hll
  refine ⟨rfl, _, h3, q1, q2.less (fun y hy hd => ?_), q3, passes_all room _ st, Mk.left_all _ hok hll⟩
  rcases hd with hd | rfl
  · exact .inl hd
  · exact .inr (fun z hz => q4 z (by rw [← hlk]; exact hz))
end Go.Proofs.YtbmkbnalembbjaaDoor
