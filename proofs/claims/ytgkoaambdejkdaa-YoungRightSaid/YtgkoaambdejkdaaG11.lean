/-
  Texts joined: LawTri.
-/
import Derived.Lib.SmallJoins
import Derived.Test.YtgkoaambdejkdaaG10
namespace Go.Proofs.Ytgkoaambdejkdaa
open Go.ChangeShapes Go.WideShapes Go.ChangeAt Go.RowKit Go.Joins Go.Deep
theorem trod_nums2 {H : Type} {enc : TypeId × Value → H} {P : Program} {t e : TypeId} {k : IntKind} {W : World} {sp : Nat → Bool} {fuel : Nat} {v : Value} {x : DataW H × List MemPlace} (ht : P.underlying t = some (.slice e)) (he : P.underlying e = some (.int k)) (hc : P.cellsOf e = 1)
    (hlt : ∀ p ∈ x.2, p.block < W.heap.size) (h : DataW.trod enc P W 0 sp true fuel t [v] = some x) :
    ∃ (A : Option Addr) (n c : Nat) (xs : List Int), v = .slice A n c ∧ n ≤ c ∧ c ≤ maxLen ∧ Reads W W.heap.size 1 A n (xs.map (.int k)) ∧ (∀ x ∈ xs, (Lit.int k x).wf = true) ∧ (n = 0 ∨ ∃ D E, x.1 = .slice D E ∧ D.length = n) := by
  obtain ⟨A, n, c, xs, h1, h2, h3, -, h4, h5⟩ := trod_nums ht he hc hlt h
  refine ⟨A, n, c, xs, h1, h2, h3, h4, h5, ?_⟩
  subst h1
  rcases open_ints ht he hc h with ⟨hcs, hx⟩ | ⟨a, len, cap, zs, hcs, hb, hlc, hm, hzl, hx, hcell, hwf⟩
  · simp at hcs
    exact .inl hcs.2.1
  · simp at hcs
    obtain ⟨rfl, rfl, rfl⟩ := hcs
    subst hx
    have hlz : n ≤ zs.length := by rw [hzl]; split <;> omega
    exact .inr ⟨_, _, rfl, by simp [lits]; omega⟩
theorem nums_weight {H : Type} {P : Program} {t e : TypeId} {d : DataW H} {n : Nat} (hu : P.underlying t = some (.slice e)) (hb : P.bytesOf e = 8) (hd : n = 0 ∨ ∃ D E, d = .slice D E ∧ D.length = n) (hw : ∀ m ∈ d.weights P t, m ≤ reachBytes) : n * 8 ≤ 140737488351232 := by
  rcases hd with h0 | ⟨D, E, rfl, hD⟩
  · omega
  · have := hw ((D.length + E.length) * P.bytesOf e) (by simp [DataW.weights, hu])
    rw [hb, hD] at this
    simp only [reachBytes] at this
    omega
set_option maxRecDepth 100000 in
theorem open_tri {H : Type} {enc : TypeId × Value → H} {W : World} {r : Reach} {base : Nat} {sp : Nat → Bool} {v : Value} {d : DataW H} {ps : List MemPlace}
    (hval : Value.okWide Try.prog W r base 25 v) (hlt : ∀ x ∈ ps, x.block < W.heap.size) (h : DataW.Trod enc Try.prog W 0 sp true 25 v d ps) (hw : ∀ m ∈ d.weights Try.prog 25, m ≤ reachBytes) :
    ∃ (A : Option Addr) (n c : Nat) (G : Option Addr) (gn gc : Nat) (K : Option Addr) (kn kc : Nat) (a g b : List Int), v = .agg #[.slice A n c, .slice G gn gc, .slice K kn kc] ∧ TriR W W.heap.size A n c G gn K kn a g b ∧ n ≤ 140737488355328 ∧ gn + kn ≤ 35184372087808 := by
  obtain ⟨c0, c1, c2, y0, y1, y2, m, rfl, rfl, rfl, hy0, hy1, hy2⟩ := open_agg3 Try.underlying25 (by kernel_rfl) (by kernel_rfl) hval h
  have k4 : Try.prog.cellsOf 43 = 1 := by kernel_rfl
  have k0 : Try.prog.cellsOf 3 = 1 := by kernel_rfl
  have k8 : Try.prog.bytesOf 43 = 8 := by kernel_rfl
  obtain ⟨A, n, c, a, rfl, a1, a2, a3, a4, a5⟩ := trod_nums2 Try.underlying22 Try.underlying43 k4 (fun x hx => hlt x (by simp [hx])) hy0
  obtain ⟨G, gn, gc, g, rfl, g1, g2, g3, g4, g5⟩ := trod_nums2 Try.underlying23 Try.underlying3 k0 (fun x hx => hlt x (by simp [hx])) hy1
  obtain ⟨K, kn, kc, b, rfl, b1, b2, b3, b4, b5⟩ := trod_nums2 Try.underlying23 Try.underlying3 k0 (fun x hx => hlt x (by simp [hx])) hy2
  have hw0 := nums_weight Try.underlying22 k8 a5 (fun m hm => hw m (by simp [DataW.weights, Try.underlying25, DataW.weightsEach, hm]))
  have hw1 := nums_weight Try.underlying23 k_int_bytes g5 (fun m hm => hw m (by simp [DataW.weights, Try.underlying25, DataW.weightsEach, hm]))
  have hw2 := nums_weight Try.underlying23 k_int_bytes b5 (fun m hm => hw m (by simp [DataW.weights, Try.underlying25, DataW.weightsEach, hm]))
  exact ⟨A, n, c, G, gn, gc, K, kn, kc, a, g, b, rfl, ⟨a3, g3, b3, a1, a4, g4, b4⟩, by omega, by omega⟩
end Go.Proofs.Ytgkoaambdejkdaa
