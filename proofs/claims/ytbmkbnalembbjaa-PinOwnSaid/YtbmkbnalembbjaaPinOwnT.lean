/-
  What PinOwn calls: each row that comes back is known to its end.
-/
import Derived.Test.YtbmkbnalembbjaaPinT
import Derived.Test.YtbmkbnalembbjaaHandT
import Derived.Test.YtbmkbnalembbjaaFullG
namespace Go.Proofs.Ytbmkbnalembbjaa
open Go.RowKit

theorem add_full (A : Option Addr) (n c : Nat) (l : List Rn) (x : Int) (w : World) (hr : Reads w w.heap.size 2 A n (runsC l)) (hn : n ≤ 1000000000000000000) :
    Calls Try.prog 19 #[.slice A n c, .int .i64 x] w fun e w' => Below w.heap.size w w' ∧ ∃ (A' : Option Addr) (n' c' : Nat) (v er : Int), e = .returned (.tuple #[.slice A' n' c', .int .i64 v, .int .i64 er]) ∧ FullG isI 2 47 w' w.heap.size A' c' := by
  refine (paddT_all A n c l x w hr hn).mono ?_
  rintro e w' ⟨hb, ⟨-, i, -, -, -, A', c', rfl, ho⟩ | ⟨-, er, -, -, rfl⟩⟩
  · exact ⟨hb, A', _, c', _, _, rfl, FullG.of ho (Nat.le_refl _)⟩
  · exact ⟨hb, none, 0, 0, _, _, rfl, FullG.of (OwnT.nil _ _ _ _ _) (Nat.le_refl w.heap.size)⟩
theorem drop_full (A : Option Addr) (n c : Nat) (l : List Rn) (x : Int) (w : World) (hr : Reads w w.heap.size 2 A n (runsC l)) (hn : n ≤ 1000000000000000000) :
    Calls Try.prog 20 #[.slice A n c, .int .i64 x] w fun e w' => Below w.heap.size w w' ∧ ∃ (A' : Option Addr) (n' c' : Nat) (v er : Int), e = .returned (.tuple #[.slice A' n' c', .int .i64 v, .int .i64 er]) ∧ FullG isI 2 47 w' w.heap.size A' c' := by
  refine (pdropT_all A n c l x w hr hn).mono ?_
  rintro e w' ⟨hb, ⟨-, i, -, -, A', c', rfl, ho⟩ | ⟨-, er, -, -, rfl⟩⟩
  · exact ⟨hb, A', _, c', _, _, rfl, FullG.of ho (Nat.le_refl _)⟩
  · exact ⟨hb, none, 0, 0, _, _, rfl, FullG.of (OwnT.nil _ _ _ _ _) (Nat.le_refl w.heap.size)⟩
theorem open_full (A : Option Addr) (n c : Nat) (l : List Slot) (loc : Int) (w : World) (hr : Reads w w.heap.size 3 A n (slotsC l)) :
    Calls Try.prog 21 #[.slice A n c, .int .i64 loc] w fun e w' => Below w.heap.size w w' ∧ ∃ (A' : Option Addr) (n' c' : Nat) (v er : Int), e = .returned (.tuple #[.slice A' n' c', .int .u64 v, .int .i64 er]) ∧ FullG isS 3 50 w' w.heap.size A' c' := by
  by_cases hE : openE l loc = 0
  · obtain ⟨-, -, -, i, s, h1, h2, h3⟩ := openE_ok hE
    refine (openT_ok A n c _ l loc i s w hr (Nat.le_refl _) hE h1 h2 h3).mono ?_
    rintro e w' ⟨hb, A', c', rfl, ho⟩
    exact ⟨hb, A', _, c', _, _, rfl, FullG.of ho (Nat.le_refl _)⟩
  · refine (open_bad A n c _ l loc w hr (Nat.le_refl _) hE).mono ?_
    rintro e w' ⟨rfl, hb⟩
    exact ⟨hb, none, 0, 0, _, _, rfl, FullG.of (OwnT.nil _ _ _ _ _) (Nat.le_refl w.heap.size)⟩
theorem close_full (A : Option Addr) (n c : Nat) (l : List Slot) (v : Int) (w : World) (hr : Reads w w.heap.size 3 A n (slotsC l)) (v0 : 0 ≤ v) (v1 : v < 18446744073709551616) :
    Calls Try.prog 22 #[.slice A n c, .int .u64 v] w fun e w' => Below w.heap.size w w' ∧ ∃ (A' : Option Addr) (n' c' : Nat) (er : Int), e = .returned (.tuple #[.slice A' n' c', .int .i64 er]) ∧ FullG isS 3 50 w' w.heap.size A' c' := by
  by_cases hE : handE l = 0
  · by_cases hf : ∃ i s, Found l v i s
    · obtain ⟨i, s, hf⟩ := hf
      refine (closeT_ok A n c _ l v i s w hr (Nat.le_refl _) hE v0 v1 hf).mono ?_
      rintro e w' ⟨hb, A', c', rfl, ho⟩
      exact ⟨hb, A', _, c', _, rfl, FullG.of ho (Nat.le_refl _)⟩
    · refine (close_stale A n c _ l v w hr (Nat.le_refl _) hE v0 v1 (fun i s h => hf ⟨i, s, h⟩)).mono ?_
      rintro e w' ⟨rfl, hb⟩
      exact ⟨hb, none, 0, 0, _, rfl, FullG.of (OwnT.nil _ _ _ _ _) (Nat.le_refl w.heap.size)⟩
  · refine (close_bad A n c _ l v w hr (Nat.le_refl _) hE).mono ?_
    rintro e w' ⟨rfl, hb⟩
    exact ⟨hb, none, 0, 0, _, rfl, FullG.of (OwnT.nil _ _ _ _ _) (Nat.le_refl w.heap.size)⟩
end Go.Proofs.Ytbmkbnalembbjaa
