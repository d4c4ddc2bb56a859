/-
  Texts joined: Base TapeNum Bits Base2 TapePut TapeNumFn.
-/
import Derived.WalkKit
import Derived.WalkSpells
import Derived.WalkLawsBesides
import Derived.Lib.Hide
import Derived.Deep.Draws
import Derived.Deep.AppendLies
import Derived.Laws.OwnMore
import Derived.Maps.AppendAt
import Derived.Laws.CopyOwn
import Derived.Laws.MakeOwn
import Derived.Deep.RegionLaw
import Derived.Deep.QuietTactic
import Derived.BigQuiet
import Derived.Test.YtbmkbnalembbjaaRows
import Derived.Laws.IdiomStrings
import Derived.Maps.Range
import Derived.Lib.BufferRead
namespace Go.Proofs.Ytbmkbnalembbjaa
open Go.RowKit
theorem block_of_add (a : Addr) (n : Nat) : (a.add n).block = a.block := by unfold Addr.add; split <;> rfl
theorem add_of_add (a : Addr) (i j : Nat) : (a.add i).add j = a.add (i + j) := by
  unfold Addr.add
  by_cases hi : i = 0 <;> by_cases hj : j = 0 <;> simp [hi, hj, Nat.add_assoc]
theorem addr_add_pos (a : Addr) (i : Nat) (h : 0 < i) : a.add i = ⟨a.block, a.off + i, none⟩ := by unfold Addr.add; rw [if_neg (by omega)]
def Reads (w : World) (B size : Nat) (A : Option Addr) (n : Nat) (xs : List Value) : Prop :=
  xs.length = n * size ∧ (0 < n → ∃ ad, A = some ad ∧ ad.block < B ∧ ∀ j u, xs[j]? = some u → w.cell? (ad.add j) = some u)
section
variable {w w' : World} {B B' size n : Nat} {A : Option Addr} {xs : List Value}
theorem Reads.none_ : Reads w B size A 0 [] := ⟨by simp, fun h => absurd h (by omega)⟩
theorem Reads.at_ {k : Nat} (h : Reads w B 1 A n xs) (hk : k < n) : ∃ ad u, A = some ad ∧ ad.block < B ∧ xs[k]? = some u ∧ w.cell? (ad.add k) = some u := by
  obtain ⟨ad, e, hb, hc⟩ := h.2 (by omega)
  have hl : k < xs.length := by have := h.1; omega
  exact ⟨ad, xs[k], e, hb, List.getElem?_eq_getElem hl, hc k _ (List.getElem?_eq_getElem hl)⟩
theorem Reads.keep (h : Reads w B size A n xs) (hk : ∀ p : Addr, p.block < B → w'.cell? p = w.cell? p) : Reads w' B size A n xs :=
  ⟨h.1, fun hn => by
    obtain ⟨ad, e, hb, hc⟩ := h.2 hn
    exact ⟨ad, e, hb, fun j u hu => (hk _ (by rw [block_of_add]; exact hb)).trans (hc j u hu)⟩⟩
theorem Reads.more (h : Reads w B size A n xs) (hB : B ≤ B') : Reads w B' size A n xs :=
  ⟨h.1, fun hn => by
    obtain ⟨ad, e, hb, hc⟩ := h.2 hn
    exact ⟨ad, e, by omega, hc⟩⟩
theorem Reads.below (h : Reads w B size A n xs) (hb : Below B w w') : Reads w' B size A n xs := h.keep fun _ hp => hb.cell hp
theorem Reads.drew (h : Reads w B size A n xs) : Reads w.drew B size A n xs := h
theorem Reads.drewN (h : Reads w B size A n xs) (k : Nat) : Reads (w.drewN k) B size A n xs := h
theorem Reads.alloc (h : Reads w B size A n xs) (hB : B ≤ w.heap.size) (o : Obj) : Reads (w.alloc o) B size A n xs := h.keep fun p hp => World.cell?_alloc_lt w o p (by omega)
theorem Reads.setCell (h : Reads w B size A n xs) {p : Addr} (hB : B ≤ p.block) (u : Value) : Reads (w.setCell p u) B size A n xs :=
  h.keep fun q hq => World.cell?_setCell_other w p q u (fun e => by subst e; omega)
theorem Reads.grown (h : Reads w B size A n xs) {row : Option Nat} (hg : w.grownBy w' row) (hB : B ≤ w.heap.size) (hr : ∀ g, row = some g → B ≤ g) : Reads w' B size A n xs :=
  h.keep fun p hp => World.cell?_of_block (hg.block p.block (by omega) (fun e => by have := hr _ e.symm; omega))
theorem Reads.cut (h : Reads w B size A n xs) {k cap : Nat} (hk : k ≤ n) (hc : n ≤ cap) :
    Reads w B size (if cap = k then A else A.map (·.add (k * size))) (n - k) (xs.drop (k * size)) := by
  refine ⟨by rw [List.length_drop, h.1, Nat.sub_mul], fun hn => ?_⟩
  obtain ⟨ad, rfl, hb, hcell⟩ := h.2 (by omega)
  rw [if_neg (by omega)]
  refine ⟨ad.add (k * size), rfl, by rw [block_of_add]; exact hb, fun j u hu => ?_⟩
  rw [add_of_add]
  exact hcell _ u (by rw [← hu, List.getElem?_drop])
theorem Reads.of_own {base : Nat} {e : TypeId} {c : Nat} (h : w.ownsRow base e size (.slice A n c) n xs) : Reads w w.heap.size size A n xs := by
  refine ⟨h.1, fun hn => ?_⟩
  obtain ⟨g, cap, hv, _, hlt⟩ := h.form hn
  have hA : A = some ⟨g, 0, none⟩ := by injection hv
  subst hA
  exact ⟨_, rfl, hlt, h.cells (g := g) rfl⟩
end
section
variable {P : Program} (w : World)
theorem run_append_of_nil (base : Nat) (t ty e : TypeId) (i : TypeInfo) (size : Nat) (ht : P.underlying t = some (.slice e)) (hi : P.info? e = some i)
    (v : Value) (n : Nat) (xs : List Value) (hown : w.ownsRow base e size v n xs) (c : Nat) : (Builtin.append_ #[t, t] ty #[v, .slice none 0 c]).run P w = .ok v w := by
  rcases hown.2 with ⟨rfl, rfl⟩ | ⟨g, cap, cur, rfl, _, _, hnc, _⟩
  · simp [Builtin.append_, run_underlying ht, sizeOf, typeInfo, hi, Builtin.lenOf, Builtin.firstCells]
  · simp [Builtin.append_, run_underlying ht, sizeOf, typeInfo, hi, Builtin.lenOf, Builtin.firstCells, hnc, storeCells]
theorem run_append_any (base : Nat) (t ty e : TypeId) (i : TypeInfo) (z : Value) (size bytes : Nat) (ht : P.underlying t = some (.slice e)) (hi : P.info? e = some i) (hz : i.zero = some z)
    (hsize : i.size = size) (hby : i.bytes = bytes) (hzs : z.cells.size = size) (hsz : 0 < size)
    (v : Value) (n : Nat) (xs : List Value) (hown : w.ownsRow base e size v n xs)
    (B : Nat) (A : Option Addr) (m c : Nat) (news : List Value) (hr : Reads w B size A m news) (h1 : ∀ u ∈ news, u.oneCell' = true)
    (h63 : n + m ≤ maxLen) (hbytes : (n + m) * bytes ≤ 140737488355328) (hbase : base ≤ w.heap.size) :
    ∃ v' w', (Builtin.append_ #[t, t] ty #[v, .slice A m c]).run P w = .ok v' w' ∧ w'.ownsRow base e size v' (n + m) (xs ++ news) ∧ w.grownBy w' v.ownBlock ∧
      (v'.ownBlock = v.ownBlock ∨ v'.ownBlock = some w.heap.size) ∧ (v' = .slice none 0 0 ↔ v = .slice none 0 0 ∧ m = 0) := by
  rcases A with _ | ad
  · have hm : m = 0 := by
      rcases Nat.eq_zero_or_pos m with h0 | h0
      · exact h0
      · obtain ⟨ad, h, _⟩ := hr.2 h0
        cases h
    subst hm
    have hn : news = [] := List.eq_nil_of_length_eq_zero (by simpa using hr.1)
    subst hn
    exact ⟨v, w, run_append_of_nil w base t ty e i size ht hi v n xs hown c, by simpa using hown, World.grownBy.refl w _, .inl rfl, by simp⟩
  · have hcells : ∀ j u, news[j]? = some u → w.cell? (ad.add j) = some u := by
      intro j u hu
      rcases Nat.eq_zero_or_pos m with h0 | h0
      · subst h0
        have hn : news = [] := List.eq_nil_of_length_eq_zero (by simpa using hr.1)
        subst hn
        simp at hu
      · obtain ⟨ad', h, _, hc⟩ := hr.2 h0
        injection h with h
        subst h
        exact hc j u hu
    obtain ⟨v', w', hrun, h2, h3, h4, h5⟩ := run_append_own_at (P := P) w base t ty e i z size bytes ht hi hz hsize hby hzs hsz v n xs hown ad m c news hr.1 hcells h1 h63 hbytes hbase
    exact ⟨v', w', hrun, h2, h3, h5, h4⟩
theorem wp_append_any {o : Oper} {a : Act} {K : Act → World → Prop} {Q : Exit → Act → World → Prop} (s x : Operand) (t : TypeId)
    (ho : o.op = .call { callee := .builtin .append, args := #[s, x], argTypes := #[t, t] })
    (base : Nat) (e : TypeId) (i : TypeInfo) (z : Value) (size bytes : Nat) (ht : P.underlying t = some (.slice e)) (hi : P.info? e = some i) (hz : i.zero = some z)
    (hsize : i.size = size) (hby : i.bytes = bytes) (hzs : z.cells.size = size) (hsz : 0 < size)
    (v : Value) (n : Nat) (xs : List Value) (hs : a.eval s = v) (hown : w.ownsRow base e size v n xs)
    (B : Nat) (A : Option Addr) (m c : Nat) (news : List Value) (hx : a.eval x = .slice A m c) (hr : Reads w B size A m news) (h1 : ∀ u ∈ news, u.oneCell' = true)
    (h63 : n + m ≤ maxLen) (hbytes : (n + m) * bytes ≤ 140737488355328) (hbase : base ≤ w.heap.size)
    (h : ∀ v' w', w'.ownsRow base e size v' (n + m) (xs ++ news) → w.grownBy w' v.ownBlock → (v'.ownBlock = v.ownBlock ∨ v'.ownBlock = some w.heap.size) → (v' = .slice none 0 0 ↔ v = .slice none 0 0 ∧ m = 0) → K (a.put o.dst v') w') : o.wp P a w K Q := by
  obtain ⟨v', w', hrun, h2, h3, h4, h5⟩ := run_append_any (P := P) w base t o.type e i z size bytes ht hi hz hsize hby hzs hsz v n xs hown B A m c news hr h1 h63 hbytes hbase
  unfold Oper.wp execOp
  simp only [ho, resolve, invoke, builtin, Sem.run_bind, Sem.run_pure, Result.andThen_ok, List.map_toArray, List.map_cons, List.map_nil, hs, hx, hrun]
  exact h v' w' h2 h3 h4 h5
theorem wpList_append_any {ops : Array Oper} {rest : List Oper} {o : Oper} {a : Act} {Q : Exit → Act → World → Prop} (hgd : o.guard = none) (s x : Operand) (t : TypeId)
    (ho : o.op = .call { callee := .builtin .append, args := #[s, x], argTypes := #[t, t] })
    (base : Nat) (e : TypeId) (i : TypeInfo) (z : Value) (size bytes : Nat) (ht : P.underlying t = some (.slice e)) (hi : P.info? e = some i) (hz : i.zero = some z)
    (hsize : i.size = size) (hby : i.bytes = bytes) (hzs : z.cells.size = size) (hsz : 0 < size)
    (v : Value) (n : Nat) (xs : List Value) (hs : a.eval s = v) (hown : w.ownsRow base e size v n xs)
    (B : Nat) (A : Option Addr) (m c : Nat) (news : List Value) (hx : a.eval x = .slice A m c) (hr : Reads w B size A m news) (h1 : ∀ u ∈ news, u.oneCell' = true)
    (h63 : n + m ≤ maxLen) (hbytes : (n + m) * bytes ≤ 140737488355328) (hbase : base ≤ w.heap.size)
    (h : ∀ v' w', w'.ownsRow base e size v' (n + m) (xs ++ news) → w.grownBy w' v.ownBlock → (v'.ownBlock = v.ownBlock ∨ v'.ownBlock = some w.heap.size) → (v' = .slice none 0 0 ↔ v = .slice none 0 0 ∧ m = 0) → wpList P ops Q rest (a.put o.dst v') w') :
    wpList P ops Q (o :: rest) a w :=
  wpList_plain hgd fun _ hK => wp_append_any w s x t ho base e i z size bytes ht hi hz hsize hby hzs hsz v n xs hs hown B A m c news hx hr h1 h63 hbytes hbase fun v' w' h2 h3 h4 h5 => hK _ _ (h v' w' h2 h3 h4 h5)
end
theorem own_slice {w : World} {base : Nat} {e : TypeId} {size n : Nat} {v : Value} {xs : List Value} (h : w.ownsRow base e size v n xs) : ∃ A c, v = .slice A n c := by
  rcases h.2 with ⟨rfl, rfl⟩ | ⟨g, cap, cur, rfl, _⟩
  · exact ⟨_, _, rfl⟩
  · exact ⟨_, _, rfl⟩
theorem own_mono {w : World} {base base' : Nat} {e : TypeId} {size n : Nat} {v : Value} {xs : List Value} (h : w.ownsRow base' e size v n xs) (hb : base ≤ base') : w.ownsRow base e size v n xs := by
  refine ⟨h.1, ?_⟩
  rcases h.2 with h2 | ⟨g, cap, cur, hv, hg, rest⟩
  · exact .inl h2
  · exact .inr ⟨g, cap, cur, hv, by omega, rest⟩
theorem own_cap {w : World} {base : Nat} {e : TypeId} {size n c : Nat} {A : Option Addr} {xs : List Value} (h : w.ownsRow base e size (.slice A n c) n xs) : n ≤ c := by
  rcases h.2 with ⟨h2, rfl⟩ | ⟨g, cap, cur, hv, hg, _, hc, _⟩
  · exact Nat.zero_le _
  · injection hv with _ _ hv; omega
theorem own_below {w w' : World} {base : Nat} {e : TypeId} {size n : Nat} {v : Value} {xs : List Value} (h : w.ownsRow base e size v n xs) (hb : Below w.heap.size w w') : w'.ownsRow base e size v n xs := by
  refine ⟨h.1, ?_⟩
  rcases h.2 with h2 | ⟨g, cap, cur, hv, hg, hh, rest⟩
  · exact .inl h2
  · exact .inr ⟨g, cap, cur, hv, hg, by rw [hb.block g (Array.getElem?_eq_some_iff.1 hh).1]; exact hh, rest⟩
theorem own_open {w : World} {base : Nat} {e : TypeId} {size n c g : Nat} {xs : List Value} (h : w.ownsRow base e size (.slice (some ⟨g, 0, none⟩) n c) n xs) :
    ∃ cur : List Value, base ≤ g ∧ w.heap[g]? = some (.cells cur.toArray e (0, 0)) ∧ n ≤ c ∧ c ≤ maxLen ∧ cur.length = c * size ∧ cur.take (n * size) = xs := by
  rcases h.2 with ⟨h2, rfl⟩ | ⟨g', cap, cur, hv, hg, hh, hc, hm, hs, ht⟩
  · cases h2
  · simp only [Value.slice.injEq, Option.some.injEq, Addr.mk.injEq, and_true, true_and] at hv
    obtain ⟨rfl, rfl⟩ := hv
    exact ⟨cur.toList, hg, by simpa using hh, hc, hm, by simpa using hs, ht⟩
theorem own_close {w : World} {base : Nat} {e : TypeId} {size n c g : Nat} (cur : List Value) (h1 : base ≤ g) (h2 : w.heap[g]? = some (.cells cur.toArray e (0, 0))) (h3 : n ≤ c) (h4 : c ≤ maxLen) (h5 : cur.length = c * size) :
    w.ownsRow base e size (.slice (some ⟨g, 0, none⟩) n c) n (cur.take (n * size)) := by
  have hle : n * size ≤ c * size := Nat.mul_le_mul_right _ h3
  exact ⟨by simp; omega, .inr ⟨g, c, cur.toArray, rfl, h1, h2, h3, h4, by simpa using h5, by simp⟩⟩
theorem take_splice {α : Type} (L : List α) (off n : Nat) (cs : List α) (h : off + cs.length ≤ n) (hL : off ≤ L.length) : (splice L off cs).take n = splice (L.take n) off cs := by
  unfold splice
  rw [List.take_append, List.take_append, List.take_take, List.take_take, Nat.min_eq_right (by omega : off ≤ n), Nat.min_eq_left (by omega : off ≤ n)]
  rw [List.length_take, Nat.min_eq_left hL, List.take_of_length_le (by omega : cs.length ≤ n - off), List.drop_take]
  congr 3
  omega
theorem reads_new (w : World) (cs : List Value) (t : TypeId) (n size : Nat) (h : cs.length = n * size) : Reads (w.alloc (.cells cs.toArray t)) (w.heap.size + 1) size (some ⟨w.heap.size, 0, none⟩) n cs :=
  ⟨h, fun _ => ⟨_, rfl, by simp, fun j u hu => by
    rw [Addr.add_lit, Nat.zero_add, cell_of_row _ _ _ _ _ _ (heap_alloc_new w _)]
    simpa using hu⟩⟩
theorem below_drewN {B : Nat} {a w : World} (h : Below B a w) (n : Nat) : Below B a (w.drewN n) := ⟨h.os, h.tape, h.output, h.size, h.block⟩
theorem below_step {w w1 w2 : World} (a1 : Below w.heap.size w w1) (a2 : Below w1.heap.size w1 w2) : Below w.heap.size w w2 := a1.trans (a2.mono a1.size)
theorem below_new (w : World) (o : Obj) : Below w.heap.size w (w.alloc o) := (Below.refl _ _).alloc (Nat.le_refl _) _
theorem bcell {W w1 : World} (hb : Below W.heap.size W w1) : (∀ b o, b < W.heap.size → w1.cell? ⟨b, o, none⟩ = W.cell? ⟨b, o, none⟩) ∧ (∀ b o, b < W.heap.size → w1.frozen? ⟨b, o, none⟩ = W.frozen? ⟨b, o, none⟩) :=
  ⟨fun b o h => hb.cell (p := ⟨b, o, none⟩) h, fun b o h => hb.frozen (p := ⟨b, o, none⟩) h⟩
def Blk (w : World) (g : Nat) (t : TypeId) (cs : Array Value) : Prop := w.heap[g]? = some (.cells cs t (0, 0))
section
variable {w w' : World} {g : Nat} {t : TypeId} {cs : Array Value}
theorem Blk.lt (h : Blk w g t cs) : g < w.heap.size := by
  rcases Nat.lt_or_ge g w.heap.size with hlt | hge
  · exact hlt
  · unfold Blk at h; rw [Array.getElem?_eq_none hge] at h; cases h
theorem Blk.cell (h : Blk w g t cs) (i : Nat) : w.cell? ⟨g, i, none⟩ = cs[i]? := cell_of_row w g i cs t (0, 0) h
theorem Blk.frozen (h : Blk w g t cs) (i : Nat) : w.frozen? ⟨g, i, none⟩ = false := by
  unfold Blk at h
  simp [World.frozen?, h]
theorem Blk.new (w : World) (t : TypeId) (cs : Array Value) : Blk (w.alloc (.cells cs t)) w.heap.size t cs := heap_alloc_new w _
theorem Blk.drew (h : Blk w g t cs) : Blk w.drew g t cs := h
theorem Blk.drewN (h : Blk w g t cs) (n : Nat) : Blk (w.drewN n) g t cs := h
theorem Blk.alloc (h : Blk w g t cs) (o : Obj) : Blk (w.alloc o) g t cs := (Below.heap_alloc w o g h.lt).trans h
theorem Blk.set_ (h : Blk w g t cs) (i : Nat) (u : Value) : Blk (w.setCell ⟨g, i, none⟩ u) g t (cs.setIfInBounds i u) := by
  unfold Blk at h ⊢
  simp [World.setCell, Array.getElem?_modify, h]
theorem Blk.far (h : Blk w g t cs) {p : Addr} (hp : g ≠ p.block) (u : Value) : Blk (w.setCell p u) g t cs := (Below.heap_setCell w p u g hp).trans h
theorem Blk.below {B : Nat} (h : Blk w g t cs) (hb : Below B w w') (hg : g < B) : Blk w' g t cs := (hb.block g hg).trans h
end
theorem flat_length {α : Type} (f : α → List Value) (k : Nat) (hf : ∀ a, (f a).length = k) (l : List α) : (l.flatMap f).length = l.length * k := by
  induction l with
  | nil => simp
  | cons a l ih => rw [List.flatMap_cons, List.length_append, ih, hf, List.length_cons, Nat.add_mul]; omega
theorem flat_at {α : Type} (f : α → List Value) (k : Nat) (hf : ∀ a, (f a).length = k) (l : List α) (j i : Nat) (hj : j < l.length) (hi : i < k) : (l.flatMap f)[j * k + i]? = (f l[j])[i]? := by
  induction l generalizing j with
  | nil => simp at hj
  | cons a l ih =>
    rw [List.flatMap_cons]
    cases j with
    | zero => rw [List.getElem?_append_left (by rw [hf]; omega)]; simp
    | succ j =>
      rw [List.getElem?_append_right (by rw [hf, Nat.add_mul]; omega)]
      have : (j + 1) * k + i - (f a).length = j * k + i := by rw [hf, Nat.add_mul]; omega
      rw [this]
      exact ih j (by simpa using hj)
def ixOf {α : Type} (p : α → Bool) (l : List α) : Int := match l.findIdx? p with | some i => (i : Int) | none => -1
theorem ixOf_some {α : Type} {p : α → Bool} {l : List α} {i : Nat} {s : α} (h : l[i]? = some s) (hs : p s = true) (hb : ∀ x ∈ l.take i, p x = false) : ixOf p l = i := by
  unfold ixOf
  have : l.findIdx? p = some i := by
    obtain ⟨hl, rfl⟩ := List.getElem?_eq_some_iff.1 h
    rw [List.findIdx?_eq_some_iff_getElem]
    refine ⟨hl, hs, fun j hj => ?_⟩
    have := hb l[j] (by rw [List.mem_take_iff_getElem]; exact ⟨j, by omega, rfl⟩)
    rw [this]
    simp
  rw [this]
theorem ixOf_none {α : Type} {p : α → Bool} {l : List α} (hb : ∀ x ∈ l, p x = false) : ixOf p l = -1 := by
  unfold ixOf
  rw [List.findIdx?_eq_none_iff.2 hb]
theorem ixOf_nonneg {α : Type} (p : α → Bool) (l : List α) : decide (0 ≤ ixOf p l) = l.any p := by
  unfold ixOf
  cases h : l.findIdx? p with
  | none =>
    rw [List.findIdx?_eq_none_iff] at h
    have : l.any p = false := by rw [List.any_eq_false]; intro x hx; rw [h x hx]; decide
    rw [this]
    decide
  | some i =>
    obtain ⟨hl, hs, _⟩ := List.findIdx?_eq_some_iff_getElem.1 h
    have : l.any p = true := List.any_eq_true.2 ⟨l[i], List.getElem_mem hl, hs⟩
    rw [this]
    simp
theorem ixOf_cases {α : Type} (p : α → Bool) (l : List α) : (ixOf p l = -1 ∧ ∀ x ∈ l, p x = false) ∨ ∃ (i : Nat) (s : α), ixOf p l = i ∧ l[i]? = some s ∧ p s = true ∧ ∀ x ∈ l.take i, p x = false := by
  unfold ixOf
  cases h : l.findIdx? p with
  | none => exact .inl ⟨rfl, List.findIdx?_eq_none_iff.1 h⟩
  | some i =>
    obtain ⟨hl, hs, hb⟩ := List.findIdx?_eq_some_iff_getElem.1 h
    refine .inr ⟨i, l[i], rfl, List.getElem?_eq_getElem hl, hs, fun x hx => ?_⟩
    rw [List.mem_take_iff_getElem] at hx
    obtain ⟨j, hj, rfl⟩ := hx
    have := hb j (by omega)
    simpa using this
theorem take_succ_mem {α : Type} {l : List α} {j : Nat} {s : α} (hs : l[j]? = some s) : ∀ x ∈ l.take (j + 1), x ∈ l.take j ∨ x = s := by
  intro x hx
  obtain ⟨hl, rfl⟩ := List.getElem?_eq_some_iff.1 hs
  rw [List.take_succ_eq_append_getElem hl, List.mem_append, List.mem_singleton] at hx
  exact hx
theorem Reads.num {w : World} {B n k : Nat} {A : Option Addr} {kd : IntKind} {xs : List Int} (h : Reads w B 1 A n (xs.map (.int kd))) (hk : k < n) :
    ∃ ad x, A = some ad ∧ ad.block < B ∧ xs[k]? = some x ∧ w.cell? (ad.add k) = some (.int kd x) := by
  obtain ⟨ad, u, e, hb, hx, hc⟩ := h.at_ hk
  have hl : k < xs.length := by have := h.1; simp at this; omega
  rw [List.getElem?_map, List.getElem?_eq_getElem hl] at hx
  obtain rfl : u = .int kd xs[k] := by simpa using hx.symm
  exact ⟨ad, xs[k], e, hb, List.getElem?_eq_getElem hl, hc⟩
theorem ret_int {k : IntKind} {a b : Int} (h : a = b) : Ending.returned (.int k a) = .returned (.int k b) := by rw [h]
end Go.Proofs.Ytbmkbnalembbjaa

namespace Go.Proofs.Ytbmkbnalembbjaa
def varN (n : Nat) : List Nat := if n < 128 then [n] else (n % 128 + 128) :: varN (n / 128)
termination_by n
decreasing_by omega
def numI (i n : Nat) : List Nat → Option (Nat × List Nat × Bool)
  | [] => none
  | c :: L => if 10 ≤ i then none else
      if c < 128 then some (n ||| (c % 128 * 2 ^ (7 * i)) % 2 ^ 64, L, decide (c = 0 ∧ 0 < i ∨ i = 9 ∧ 1 < c))
      else numI (i + 1) (n ||| (c % 128 * 2 ^ (7 * i)) % 2 ^ 64) L
def numR (L : List Nat) (b : Bool) : Nat × List Nat × Bool :=
  match numI 0 0 L with
  | some (n, R, e) => (n, R, b || e)
  | none => (0, L, true)
theorem or_high {n c i : Nat} (hn : n < 2 ^ (7 * i)) : n ||| c * 2 ^ (7 * i) = n + c * 2 ^ (7 * i) := by
  have h := Nat.two_pow_add_eq_or_of_lt hn c
  rw [Nat.or_comm, Nat.mul_comm c, ← h, Nat.add_comm]
theorem varN_small {n : Nat} (h : n < 128) : varN n = [n] := by rw [varN, if_pos h]
theorem varN_big {n : Nat} (h : ¬ n < 128) : varN n = (n % 128 + 128) :: varN (n / 128) := by rw [varN, if_neg h]
theorem varN_bytes (n : Nat) : ∀ c ∈ varN n, c < 256 := by
  induction n using varN.induct with
  | case1 n h => rw [varN_small h]; intro c hc; simp at hc; omega
  | case2 n h ih =>
    rw [varN_big h]
    intro c hc
    rcases List.mem_cons.1 hc with rfl | hc
    · omega
    · exact ih c hc
theorem varN_pos (n : Nat) : 1 ≤ (varN n).length := by
  by_cases h : n < 128
  · rw [varN_small h]; simp
  · rw [varN_big h]; simp
theorem pow_step (i : Nat) : 2 ^ (7 * (i + 1)) = 128 * 2 ^ (7 * i) := by
  rw [show 7 * (i + 1) = 7 + 7 * i by omega, Nat.pow_add]
theorem pow_le (i : Nat) (h : i ≤ 8) : 2 ^ (7 * (i + 1)) ≤ 2 ^ 63 := Nat.pow_le_pow_right (by decide) (by omega)
theorem numI_put (n : Nat) : ∀ (i acc : Nat) (R : List Nat), acc < 2 ^ (7 * i) → n * 2 ^ (7 * i) < 2 ^ 64 → i ≤ 9 → (0 < i → 0 < n) → numI i acc (varN n ++ R) = some (acc + n * 2 ^ (7 * i), R, false) := by
  induction n using varN.induct with
  | case1 n h =>
    intro i acc R ha hn hi hp
    have hp63 : (2 : Nat) ^ 63 * 2 = 2 ^ 64 := by decide
    rw [varN_small h, List.singleton_append, numI, if_neg (by omega), if_pos h, Nat.mod_eq_of_lt h, Nat.mod_eq_of_lt hn, or_high ha]
    have h9 : i = 9 → n < 2 := by
      intro e
      subst e
      have : n * 2 ^ 63 < 2 * 2 ^ 63 := by rw [Nat.mul_comm 2, hp63]; exact hn
      exact Nat.lt_of_mul_lt_mul_right this
    congr 3
    rw [decide_eq_false_iff_not]
    rintro (⟨h0, h1⟩ | ⟨h0, h1⟩)
    · have := hp h1; omega
    · have := h9 h0; omega
  | case2 n h ih =>
    intro i acc R ha hn hi hp
    have hq : n % 128 + 128 * (n / 128) = n := Nat.mod_add_div n 128
    have hps := pow_step i
    have hle : n % 128 * 2 ^ (7 * i) ≤ n * 2 ^ (7 * i) := Nat.mul_le_mul_right _ (Nat.mod_le _ _)
    have hdiv : (n / 128) * 2 ^ (7 * (i + 1)) ≤ n * 2 ^ (7 * i) := by
      rw [hps, ← Nat.mul_assoc]
      exact Nat.mul_le_mul_right _ (by omega)
    have h8 : i ≤ 8 := by
      rcases Nat.lt_or_ge i 9 with h | h
      · omega
      · have e : i = 9 := by omega
        subst e
        have h1 : 128 * 2 ^ 63 ≤ n * 2 ^ 63 := Nat.mul_le_mul_right _ (by omega)
        have h2 : (2 : Nat) ^ 64 ≤ 128 * 2 ^ 63 := by decide
        have h3 : n * 2 ^ 63 < 2 ^ 64 := hn
        omega
    rw [varN_big h, List.cons_append, numI, if_neg (by omega), if_neg (by omega)]
    have hc : (n % 128 + 128) % 128 = n % 128 := by omega
    rw [hc, Nat.mod_eq_of_lt (by omega), or_high ha]
    have hacc : acc + n % 128 * 2 ^ (7 * i) < 2 ^ (7 * (i + 1)) := by
      have h1 : n % 128 * 2 ^ (7 * i) ≤ 127 * 2 ^ (7 * i) := Nat.mul_le_mul_right _ (by omega)
      rw [hps]
      omega
    rw [ih (i + 1) _ R hacc (by omega) (by omega) (fun _ => by omega)]
    congr 2
    rw [hps, Nat.add_assoc]
    congr 1
    rw [← Nat.mul_assoc, Nat.mul_comm (n / 128) 128, ← Nat.add_mul, hq]
theorem numR_put (n : Nat) (R : List Nat) (b : Bool) (hn : n < 2 ^ 64) : numR (varN n ++ R) b = (n, R, b) := by
  unfold numR
  rw [numI_put n 0 0 R (by decide) (by simpa using hn) (by decide) (by omega)]
  simp
theorem numI_read (L : List Nat) : ∀ (i acc v : Nat) (R : List Nat), (∀ c ∈ L, c < 256) → acc < 2 ^ (7 * i) → numI i acc L = some (v, R, false) →
    ∃ n, L = varN n ++ R ∧ v = acc + n * 2 ^ (7 * i) ∧ (0 < i → 0 < n) ∧ n * 2 ^ (7 * i) < 2 ^ 64 := by
  induction L with
  | nil => intro i acc v R _ _ h; simp [numI] at h
  | cons c L ih =>
    intro i acc v R hL ha h
    have hc := hL c List.mem_cons_self
    have hps := pow_step i
    rw [numI] at h
    by_cases hi : 10 ≤ i
    · rw [if_pos hi] at h; cases h
    rw [if_neg hi] at h
    by_cases h1 : c < 128
    · rw [if_pos h1, Nat.mod_eq_of_lt h1] at h
      simp only [Option.some.injEq, Prod.mk.injEq, decide_eq_false_iff_not] at h
      obtain ⟨hv, rfl, hb⟩ := h
      have hlt : c * 2 ^ (7 * i) < 2 ^ 64 := by
        rcases Nat.lt_or_ge i 9 with h9 | h9
        · have h2 : c * 2 ^ (7 * i) ≤ 127 * 2 ^ (7 * i) := Nat.mul_le_mul_right _ (by omega)
          have h3 := pow_le i (by omega)
          have h4 : 0 < 2 ^ (7 * i) := Nat.pow_pos (by decide)
          have h5 : (2 : Nat) ^ 63 < 2 ^ 64 := by decide
          omega
        · have e : i = 9 := by omega
          subst e
          have h2 : c ≤ 1 := by
            rcases Nat.lt_or_ge 1 c with h | h
            · exact absurd (Or.inr ⟨rfl, h⟩) hb
            · exact h
          have h3 : c * 2 ^ 63 ≤ 1 * 2 ^ 63 := Nat.mul_le_mul_right _ h2
          have h5 : (2 : Nat) ^ 63 < 2 ^ 64 := by decide
          show c * 2 ^ 63 < 2 ^ 64
          omega
      rw [Nat.mod_eq_of_lt hlt, or_high ha] at hv
      refine ⟨c, by rw [varN_small h1]; rfl, hv.symm, fun h0 => ?_, hlt⟩
      rcases Nat.eq_zero_or_pos c with hz | hz
      · exact absurd (Or.inl ⟨hz, h0⟩) hb
      · exact hz
    · rw [if_neg h1] at h
      have h9 : i ≠ 9 := by
        intro e
        subst e
        cases L with
        | nil => simp [numI] at h
        | cons d L => rw [numI, if_pos (by decide)] at h; cases h
      have hm : c % 128 = c - 128 := by omega
      have h2 : (c - 128) * 2 ^ (7 * i) ≤ 127 * 2 ^ (7 * i) := Nat.mul_le_mul_right _ (by omega)
      have h3 := pow_le i (by omega)
      have h4 : 0 < 2 ^ (7 * i) := Nat.pow_pos (by decide)
      have h5 : (2 : Nat) ^ 63 < 2 ^ 64 := by decide
      rw [hm, Nat.mod_eq_of_lt (by omega), or_high ha] at h
      obtain ⟨n, rfl, rfl, hp, hlt⟩ := ih (i + 1) _ v R (fun d hd => hL d (List.mem_cons_of_mem _ hd)) (by rw [hps]; omega) h
      have hn := hp (by omega)
      have hbig : ¬ (c - 128 + 128 * n) < 128 := by omega
      have hmul : (c - 128 + 128 * n) * 2 ^ (7 * i) = (c - 128) * 2 ^ (7 * i) + n * 2 ^ (7 * (i + 1)) := by
        rw [hps, Nat.add_mul, Nat.mul_comm 128 n, Nat.mul_assoc]
      refine ⟨c - 128 + 128 * n, ?_, ?_, fun _ => by omega, ?_⟩
      · rw [varN_big hbig, show (c - 128 + 128 * n) % 128 + 128 = c by omega, show (c - 128 + 128 * n) / 128 = n by omega]
        rfl
      · rw [hmul]; omega
      · rw [hmul]
        -- the low seven bits lie below the place of the others
        have hk : n * 2 ^ (7 * (i + 1)) + 2 ^ (7 * (i + 1)) ≤ 2 ^ 64 := by
          have hd : 2 ^ 64 = 2 ^ (7 * (i + 1)) * 2 ^ (64 - 7 * (i + 1)) := by rw [← Nat.pow_add]; congr 1; omega
          have h7 : n < 2 ^ (64 - 7 * (i + 1)) := by
            rw [hd, Nat.mul_comm] at hlt
            exact Nat.lt_of_mul_lt_mul_left hlt
          rw [hd, ← Nat.succ_mul, Nat.mul_comm]
          exact Nat.mul_le_mul_left _ h7
        rw [hps] at hk ⊢
        omega
theorem numR_read {L R : List Nat} {v : Nat} {b : Bool} (hL : ∀ c ∈ L, c < 256) (h : numR L b = (v, R, false)) : L = varN v ++ R ∧ v < 2 ^ 64 ∧ b = false := by
  unfold numR at h
  split at h
  · rename_i n R' e he
    simp only [Prod.mk.injEq, Bool.or_eq_false_iff] at h
    obtain ⟨rfl, rfl, rfl, rfl⟩ := h
    obtain ⟨m, h1, h2, -, h4⟩ := numI_read L 0 0 n R' hL (by decide) he
    have : n = m := by simpa using h2
    subst this
    exact ⟨h1, by simpa using h4, rfl⟩
  · simp at h
theorem numI_shorter (L : List Nat) : ∀ (i acc v : Nat) (R : List Nat) (e : Bool), numI i acc L = some (v, R, e) → ∃ P, P ≠ [] ∧ L = P ++ R := by
  induction L with
  | nil => intro i acc v R e h; simp [numI] at h
  | cons c L ih =>
    intro i acc v R e h
    rw [numI] at h
    split at h
    · cases h
    split at h
    · simp only [Option.some.injEq, Prod.mk.injEq] at h
      obtain ⟨_, rfl, _⟩ := h
      exact ⟨[c], by simp, rfl⟩
    · obtain ⟨P, _, rfl⟩ := ih _ _ _ _ _ h
      exact ⟨c :: P, by simp, rfl⟩
theorem numI_le (L : List Nat) : ∀ (i acc v : Nat) (R : List Nat) (e : Bool), acc < 2 ^ 64 → numI i acc L = some (v, R, e) → v < 2 ^ 64 := by
  induction L with
  | nil => intro i acc v R e _ h; simp [numI] at h
  | cons c L ih =>
    intro i acc v R e ha h
    have hor : acc ||| (c % 128 * 2 ^ (7 * i)) % 2 ^ 64 < 2 ^ 64 := Nat.or_lt_two_pow ha (Nat.mod_lt _ (by decide))
    rw [numI] at h
    split at h
    · cases h
    split at h
    · simp only [Option.some.injEq, Prod.mk.injEq] at h
      obtain ⟨rfl, _, _⟩ := h
      exact hor
    · exact ih _ _ _ _ _ hor h
theorem numR_lt {L : List Nat} {b : Bool} : (numR L b).1 < 2 ^ 64 := by
  unfold numR
  split
  · rename_i n R' e he
    exact numI_le L 0 0 n R' e (by decide) he
  · exact Nat.pow_pos (by decide)
theorem numR_suffix (L : List Nat) (b : Bool) : ∃ P, L = P ++ (numR L b).2.1 := by
  unfold numR
  split
  · rename_i n R' e he
    obtain ⟨P, _, h⟩ := numI_shorter L 0 0 n R' e he
    exact ⟨P, h⟩
  · exact ⟨[], rfl⟩
def numsR : Nat → List Nat → Bool → List Nat × List Nat × Bool
  | 0, L, b => ([], L, b)
  | k + 1, L, b => ((numsR k L b).1 ++ [(numR (numsR k L b).2.1 (numsR k L b).2.2).1], (numR (numsR k L b).2.1 (numsR k L b).2.2).2)
def encN (l : List Nat) : List Nat := l.flatMap varN
theorem encN_append (l m : List Nat) : encN (l ++ m) = encN l ++ encN m := List.flatMap_append
theorem encN_bytes (l : List Nat) : ∀ c ∈ encN l, c < 256 := by
  intro c hc
  obtain ⟨n, _, h⟩ := List.mem_flatMap.1 hc
  exact varN_bytes n c h
theorem encN_one (n : Nat) : encN [n] = varN n := by simp [encN]
theorem encN_len (l : List Nat) : l.length ≤ (encN l).length := by
  induction l with
  | nil => simp
  | cons n l ih =>
    have := varN_pos n
    simp only [encN, List.flatMap_cons, List.length_append, List.length_cons] at ih ⊢
    omega
theorem numsR_length (k : Nat) (L : List Nat) (b : Bool) : (numsR k L b).1.length = k := by
  induction k with
  | zero => rfl
  | succ k ih => simp [numsR, ih]
theorem numsR_suffix (k : Nat) (L : List Nat) (b : Bool) : ∃ P, L = P ++ (numsR k L b).2.1 := by
  induction k with
  | zero => exact ⟨[], rfl⟩
  | succ k ih =>
    obtain ⟨P, h⟩ := ih
    obtain ⟨Q, h2⟩ := numR_suffix (numsR k L b).2.1 (numsR k L b).2.2
    refine ⟨P ++ Q, ?_⟩
    show L = P ++ Q ++ (numR (numsR k L b).2.1 (numsR k L b).2.2).2.1
    rw [List.append_assoc, ← h2]
    exact h
theorem numsR_lt (k : Nat) (L : List Nat) (b : Bool) : ∀ n ∈ (numsR k L b).1, n < 2 ^ 64 := by
  induction k with
  | zero => intro n hn; cases hn
  | succ k ih =>
    intro n hn
    rcases List.mem_append.1 hn with hn | hn
    · exact ih n hn
    · rw [List.mem_singleton.1 hn]; exact numR_lt
theorem bytes_suffix {L P R : List Nat} (h : L = P ++ R) (hL : ∀ c ∈ L, c < 256) : ∀ c ∈ R, c < 256 := fun c hc => hL c (by rw [h]; exact List.mem_append_right _ hc)
theorem numsR_put (k : Nat) : ∀ (ns R : List Nat) (b : Bool), ns.length = k → (∀ n ∈ ns, n < 2 ^ 64) → numsR k (encN ns ++ R) b = (ns, R, b) := by
  induction k with
  | zero =>
    intro ns R b h _
    obtain rfl := List.eq_nil_of_length_eq_zero h
    rfl
  | succ k ih =>
    intro ns R b h hn
    have hk : k < ns.length := by omega
    have e : ns = ns.take k ++ [ns[k]] := by
      rw [← List.take_succ_eq_append_getElem hk, List.take_of_length_le (by omega)]
    generalize ns.take k = ms at e
    generalize ns[k] = m at e
    subst e
    have hm : ms.length = k := by simpa using h
    rw [encN_append, encN_one, List.append_assoc]
    simp only [numsR]
    rw [ih ms (varN m ++ R) b hm (fun n h => hn n (List.mem_append_left _ h))]
    simp only
    rw [numR_put m R b (hn m (by simp))]
theorem numsR_read (k : Nat) : ∀ (L : List Nat) (b : Bool) (ns R : List Nat), (∀ c ∈ L, c < 256) → numsR k L b = (ns, R, false) → L = encN ns ++ R ∧ b = false := by
  induction k with
  | zero =>
    intro L b ns R _ h
    simp only [numsR, Prod.mk.injEq] at h
    obtain ⟨rfl, rfl, rfl⟩ := h
    exact ⟨rfl, rfl⟩
  | succ k ih =>
    intro L b ns R hL h
    obtain ⟨P, hP⟩ := numsR_suffix k L b
    have hB := bytes_suffix hP hL
    simp only [numsR, Prod.mk.injEq] at h
    obtain ⟨h1, h2⟩ := h
    obtain ⟨q1, q2, q3⟩ := numR_read (v := (numR (numsR k L b).2.1 (numsR k L b).2.2).1) (R := R) hB (by rw [← h2])
    obtain ⟨i1, i2⟩ := ih L b (numsR k L b).1 (numsR k L b).2.1 hL (by rw [← q3])
    refine ⟨?_, i2⟩
    rw [← h1, encN_append, encN_one, List.append_assoc, ← q1]
    exact i1
def u64N (x : Int) : Nat := (x % 18446744073709551616).toNat
def i64N (n : Nat) : Int := RowKit.wrap64 n
theorem u64N_lt (x : Int) : u64N x < 2 ^ 64 := by unfold u64N; omega
theorem u64N_cast (x : Int) : (u64N x : Int) = x % 18446744073709551616 := by unfold u64N; omega
theorem i64N_u64N {x : Int} (h : -9223372036854775808 ≤ x ∧ x ≤ 9223372036854775807) : i64N (u64N x) = x := by
  unfold i64N u64N RowKit.wrap64
  omega
theorem u64N_i64N {n : Nat} (h : n < 2 ^ 64) : u64N (i64N n) = n := by
  unfold i64N u64N RowKit.wrap64
  omega
theorem u64N_id {x : Int} (h : 0 ≤ x ∧ x < 18446744073709551616) : (u64N x : Int) = x := by unfold u64N; omega
theorem u64N_nat {n : Nat} (h : n < 2 ^ 64) : u64N (n : Int) = n := by unfold u64N; omega
theorem root_back {n : Nat} (h : n < 2 ^ 64) : u64N (RowKit.wrap64 (RowKit.wrap64 (i64N n - 1) + 1)) = n := by
  unfold i64N u64N RowKit.wrap64
  omega
theorem root_forth {v : Int} (h : -1 ≤ v ∧ v < 9223372036854775807) : RowKit.wrap64 (i64N (u64N (RowKit.wrap64 (v + 1))) - 1) = v := by
  unfold i64N u64N RowKit.wrap64
  omega
def recR {α : Type} (m : Nat) (f : List Nat → α) (bad : List Nat → Bool) : Nat → List Nat → Bool → List α × List Nat × Bool
  | 0, L, b => ([], L, b)
  | k + 1, L, b => ((recR m f bad k L b).1 ++ [f (numsR m (recR m f bad k L b).2.1 (recR m f bad k L b).2.2).1], (numsR m (recR m f bad k L b).2.1 (recR m f bad k L b).2.2).2.1,
      (numsR m (recR m f bad k L b).2.1 (recR m f bad k L b).2.2).2.2 || bad (numsR m (recR m f bad k L b).2.1 (recR m f bad k L b).2.2).1)
section
variable {α : Type} {m : Nat} {f : List Nat → α} {bad : List Nat → Bool}
theorem recR_length (k : Nat) (L : List Nat) (b : Bool) : (recR m f bad k L b).1.length = k := by
  induction k with
  | zero => rfl
  | succ k ih => simp [recR, ih]
theorem recR_suffix (k : Nat) (L : List Nat) (b : Bool) : ∃ P, L = P ++ (recR m f bad k L b).2.1 := by
  induction k with
  | zero => exact ⟨[], rfl⟩
  | succ k ih =>
    obtain ⟨P, h⟩ := ih
    obtain ⟨Q, h2⟩ := numsR_suffix m (recR m f bad k L b).2.1 (recR m f bad k L b).2.2
    refine ⟨P ++ Q, ?_⟩
    show L = P ++ Q ++ (numsR m (recR m f bad k L b).2.1 (recR m f bad k L b).2.2).2.1
    rw [List.append_assoc, ← h2]
    exact h
theorem recR_all (k : Nat) (L : List Nat) (b : Bool) : ∀ x ∈ (recR m f bad k L b).1, ∃ l : List Nat, x = f l ∧ l.length = m ∧ ∀ n ∈ l, n < 2 ^ 64 := by
  induction k with
  | zero => intro x hx; cases hx
  | succ k ih =>
    intro x hx
    rcases List.mem_append.1 hx with hx | hx
    · exact ih x hx
    · rw [List.mem_singleton.1 hx]
      exact ⟨_, rfl, numsR_length _ _ _, numsR_lt _ _ _⟩
theorem recR_read {g : α → List Nat} (hg : ∀ l : List Nat, l.length = m → (∀ n ∈ l, n < 2 ^ 64) → bad l = false → g (f l) = l) (k : Nat) :
    ∀ (L : List Nat) (b : Bool), (∀ c ∈ L, c < 256) → (recR m f bad k L b).2.2 = false → L = encN ((recR m f bad k L b).1.flatMap g) ++ (recR m f bad k L b).2.1 ∧ b = false := by
  induction k with
  | zero => intro L b _ h; exact ⟨rfl, h⟩
  | succ k ih =>
    intro L b hL h
    obtain ⟨P, hP⟩ := recR_suffix (m := m) (f := f) (bad := bad) k L b
    have hB := bytes_suffix hP hL
    simp only [recR, Bool.or_eq_false_iff] at h
    obtain ⟨h1, h2⟩ := h
    obtain ⟨q1, q2⟩ := numsR_read m _ _ (numsR m (recR m f bad k L b).2.1 (recR m f bad k L b).2.2).1 (numsR m (recR m f bad k L b).2.1 (recR m f bad k L b).2.2).2.1 hB (by rw [← h1])
    obtain ⟨i1, i2⟩ := ih L b hL q2
    refine ⟨?_, i2⟩
    show L = encN (((recR m f bad k L b).1 ++ [_]).flatMap g) ++ (numsR m (recR m f bad k L b).2.1 (recR m f bad k L b).2.2).2.1
    rw [List.flatMap_append, encN_append, List.append_assoc, List.flatMap_singleton, hg _ (numsR_length _ _ _) (numsR_lt _ _ _) h2, ← q1]
    exact i1
theorem recR_put {g : α → List Nat} {ok : α → Prop} (hg : ∀ x, ok x → (g x).length = m ∧ (∀ n ∈ g x, n < 2 ^ 64) ∧ f (g x) = x ∧ bad (g x) = false) (k : Nat) :
    ∀ (xs : List α) (R : List Nat) (b : Bool), xs.length = k → (∀ x ∈ xs, ok x) → recR m f bad k (encN (xs.flatMap g) ++ R) b = (xs, R, b) := by
  induction k with
  | zero =>
    intro xs R b h _
    obtain rfl := List.eq_nil_of_length_eq_zero h
    rfl
  | succ k ih =>
    intro xs R b h hx
    have hk : k < xs.length := by omega
    have e : xs = xs.take k ++ [xs[k]] := by
      rw [← List.take_succ_eq_append_getElem hk, List.take_of_length_le (by omega)]
    generalize xs.take k = ms at e
    generalize xs[k] = y at e
    subst e
    have hm : ms.length = k := by simpa using h
    obtain ⟨g1, g2, g3, g4⟩ := hg y (hx y (by simp))
    rw [List.flatMap_append, List.flatMap_singleton, encN_append, List.append_assoc]
    simp only [recR]
    rw [ih ms (encN (g y) ++ R) b hm (fun x h => hx x (List.mem_append_left _ h))]
    simp only
    rw [numsR_put m (g y) R b g1 g2]
    simp only [g3, g4, Bool.or_false]
end
def cntR (L : List Nat) (b : Bool) : Nat × List Nat × Bool :=
  if (numR L b).2.2 = true ∨ (numR L b).2.1.length < (numR L b).1 then (0, (numR L b).2.1, true) else ((numR L b).1, (numR L b).2.1, false)
theorem cntR_suffix (L : List Nat) (b : Bool) : ∃ P, L = P ++ (cntR L b).2.1 := by
  obtain ⟨P, h⟩ := numR_suffix L b
  unfold cntR
  split <;> exact ⟨P, h⟩
theorem cntR_le (L : List Nat) (b : Bool) : (cntR L b).1 ≤ (cntR L b).2.1.length := by
  unfold cntR
  split
  · exact Nat.zero_le _
  · rename_i h
    simp only
    omega
theorem cntR_read {L : List Nat} {b : Bool} (hL : ∀ c ∈ L, c < 256) (h : (cntR L b).2.2 = false) : L = varN (cntR L b).1 ++ (cntR L b).2.1 ∧ b = false := by
  unfold cntR at h ⊢
  split at h
  · cases h
  · rename_i hn
    have hb : (numR L b).2.2 = false := by
      cases hq : (numR L b).2.2
      · rfl
      · exact absurd (Or.inl hq) hn
    rw [if_neg hn]
    obtain ⟨q1, -, q3⟩ := numR_read (v := (numR L b).1) (R := (numR L b).2.1) hL (by rw [← hb])
    exact ⟨q1, q3⟩
theorem cntR_put {n : Nat} {R : List Nat} (hn : n < 2 ^ 64) (hR : n ≤ R.length) : cntR (varN n ++ R) false = (n, R, false) := by
  unfold cntR
  rw [numR_put n R false hn]
  rw [if_neg (by simp; omega)]
end Go.Proofs.Ytbmkbnalembbjaa

namespace Go.Proofs.Ytbmkbnalembbjaa
open Go.RowKit
theorem band16 (x : Int) (h0 : 0 ≤ x) (h1 : x < 18446744073709551616) : bits .and .u64 x 65535 = x % 65536 := by
  rw [u64_and x 65535 h0 h1 (by decide) (by decide), show (65535 : Int).toNat = 2 ^ 16 - 1 from rfl, Nat.and_two_pow_sub_one_eq_mod]
  omega
theorem band48 (x : Int) (h0 : 0 ≤ x) (h1 : x < 18446744073709551616) : bits .and .u64 x 281474976710656 = x / 281474976710656 % 2 * 281474976710656 := by
  rw [u64_and x 281474976710656 h0 h1 (by decide) (by decide), show (281474976710656 : Int).toNat = 2 ^ 48 from rfl, nat_bit]
  have : (2 : Nat) ^ 48 = 281474976710656 := by decide
  rw [this]
  omega
end Go.Proofs.Ytbmkbnalembbjaa

namespace Go.Proofs.Ytbmkbnalembbjaa
open Go.RowKit
theorem Blk.grown {w w' : World} {g : Nat} {t : TypeId} {cs : Array Value} {row : Option Nat} (h : Blk w g t cs) (hb : w.grownBy w' row) (hg : some g ≠ row) : Blk w' g t cs := (hb.block g h.lt hg).trans h
theorem Blk.ne_ {w : World} {g g' : Nat} {t t' : TypeId} {cs cs' : Array Value} (h : Blk w g t cs) (h' : Blk w g' t' cs') (hne : t ≠ t') : g ≠ g' := by
  rintro rfl
  unfold Blk at h h'
  rw [h] at h'
  injection h' with h'
  injection h' with _ ht
  exact hne ht
theorem own_far {w : World} {base : Nat} {e : TypeId} {size n : Nat} {v : Value} {xs : List Value} (h : w.ownsRow base e size v n xs) {p : Addr} (hp : p.block < base) (u : Value) : (w.setCell p u).ownsRow base e size v n xs := by
  refine ⟨h.1, ?_⟩
  rcases h.2 with h2 | ⟨g, cap, cur, hv, hg, hh, rest⟩
  · exact .inl h2
  · exact .inr ⟨g, cap, cur, hv, hg, by rw [Below.heap_setCell w p u g (by omega)]; exact hh, rest⟩
theorem own_apart {w : World} {base : Nat} {e : TypeId} {size n : Nat} {v : Value} {xs : List Value} (h : w.ownsRow base e size v n xs) {p : Addr} (hp : v.ownBlock ≠ some p.block) (u : Value) : (w.setCell p u).ownsRow base e size v n xs := by
  refine ⟨h.1, ?_⟩
  rcases h.2 with h2 | ⟨g, cap, cur, hv, hg, hh, rest⟩
  · exact .inl h2
  · refine .inr ⟨g, cap, cur, hv, hg, ?_, rest⟩
    rw [Below.heap_setCell w p u g (by subst hv; simpa [Value.ownBlock] using hp)]
    exact hh
theorem own_ge {w : World} {base : Nat} {e : TypeId} {size n : Nat} {v : Value} {xs : List Value} (h : w.ownsRow base e size v n xs) {g : Nat} (hg : v.ownBlock = some g) : base ≤ g := (h.lt g hg).1
theorem own_grown {w w' : World} {base : Nat} {e : TypeId} {size n : Nat} {v : Value} {xs : List Value} {row : Option Nat} (h : w.ownsRow base e size v n xs) (hg : w.grownBy w' row) (hne : ∀ g, v.ownBlock = some g → row ≠ some g) : w'.ownsRow base e size v n xs := by
  refine ⟨h.1, ?_⟩
  rcases h.2 with h2 | ⟨g, cap, cur, hv, hb, hh, rest⟩
  · exact .inl h2
  · refine .inr ⟨g, cap, cur, hv, hb, ?_, rest⟩
    have := hne g (by subst hv; rfl)
    rw [hg.block g (Array.getElem?_eq_some_iff.1 hh).1 (fun e => this e.symm)]
    exact hh
theorem own_blk_ne {w : World} {base g : Nat} {e t : TypeId} {size n : Nat} {v : Value} {xs : List Value} {cs : Array Value} (h : w.ownsRow base e size v n xs) (hg : Blk w g t cs) (hne : e ≠ t) : v.ownBlock ≠ some g := by
  rcases h.2 with ⟨rfl, _⟩ | ⟨g', cap, cur, rfl, _, hh, _⟩
  · simp [Value.ownBlock]
  · intro he
    have : g' = g := by simpa [Value.ownBlock] using he
    subst this
    exact Blk.ne_ (t := e) hh hg hne rfl
def Plain (P : Program) (F : Nat) : Prop := ∀ (args : Array Value) (w : World), (callFunc F args).run P w = .ok (.enter F args) w
theorem plain_of {P : Program} {F : Nat} {fn : Func} (hf : P.funcs[F]? = some fn) (hname : (fn.name == "runtime.NumGoroutine") = false) (hb : fn.body.isNone = false) : Plain P F := by
  intro args w
  have h1 : fn.name ≠ "runtime.NumGoroutine" := by simpa using hname
  have h2 : fn.body ≠ none := by intro h; rw [h] at hb; cases hb
  simp [callFunc, hf, h1, h2]
theorem drewN_add (w : World) (a b : Nat) : (w.drewN a).drewN b = w.drewN (a + b) := World.drewN_drewN w a b
theorem eq_of_takes (xs ys : List Int) (n : Nat) (hx : xs.length = n) (hy : ys.length = n) (h : xs.take n = ys.take n) : xs = ys := by
  rw [List.take_of_length_le (by omega), List.take_of_length_le (by omega)] at h
  exact h
end Go.Proofs.Ytbmkbnalembbjaa

namespace Go.Proofs.Ytbmkbnalembbjaa
open Go.RowKit
def byteN (l : List Nat) : List Value := l.map fun (c : Nat) => .int .u8 (c : Int)
theorem info_u8n : (Try.prog.info? 5).map (fun i => (i.zero, i.size, i.bytes)) = some (some (.int .u8 0), 1, 1) := by kernel_rfl
theorem byteN_append (l m : List Nat) : byteN (l ++ m) = byteN l ++ byteN m := by simp [byteN]
theorem byteN_length (l : List Nat) : (byteN l).length = l.length := by simp [byteN]
def Moved (w : World) (v v' : Value) : Prop := v'.ownBlock = v.ownBlock ∨ ∃ g, v'.ownBlock = some g ∧ w.heap.size ≤ g
theorem moved_on {w wr w4 : World} {v v1 v2 : Value} {o : Obj} (hg : w.grownBy wr v.ownBlock) (hm : Moved w v v1) (h2 : (wr.alloc o).grownBy w4 v1.ownBlock) (hb : v2.ownBlock = v1.ownBlock ∨ v2.ownBlock = some (wr.alloc o).heap.size) :
    w.grownBy w4 v.ownBlock ∧ Moved w v v2 := by
  constructor
  · refine (hg.trans (World.grownBy_alloc wr o _)).andThen h2 (fun j hj => ?_)
    rcases hm with h | ⟨g, h, hge⟩
    · exact .inr (by rw [← h]; exact hj)
    · rw [h] at hj
      exact .inl (by rw [← Option.some.inj hj]; exact hge)
  · rcases hb with h | h
    · rcases hm with h3 | ⟨g, h3, hge⟩
      · exact .inl (h.trans h3)
      · exact .inr ⟨g, h.trans h3, hge⟩
    · exact .inr ⟨_, h, by have := hg.size; simp; omega⟩
theorem grown_cell (w : World) (g i : Nat) (u : Value) : w.grownBy (w.setCell ⟨g, i, none⟩ u) (some g) :=
  ⟨rfl, rfl, rfl, by simp, fun k hk hne => Below.heap_setCell w ⟨g, i, none⟩ u k (fun e => hne (by rw [e]))⟩
theorem varN_len (n : Nat) : ∀ k, n < 2 ^ (7 * (k + 1)) → (varN n).length ≤ k + 1 := by
  induction n using varN.induct with
  | case1 n h => intro k _; rw [varN_small h]; simp
  | case2 n h ih =>
    intro k hk
    rw [varN_big h]
    cases k with
    | zero => simp at hk; omega
    | succ k =>
      have := ih k (by rw [pow_step (k + 1)] at hk; omega)
      simp only [List.length_cons]
      omega
theorem varN_ten {n : Nat} (h : n < 2 ^ 64) : (varN n).length ≤ 10 := varN_len n 9 (Nat.lt_of_lt_of_le h (Nat.pow_le_pow_right (by decide) (by decide)))
def bytesN (s : ByteArray) : List Nat := s.data.toList.map UInt8.toNat
theorem bytesN_length (s : ByteArray) : (bytesN s).length = s.size := by simp [bytesN]
theorem bytesN_lt (s : ByteArray) : ∀ c ∈ bytesN s, c < 256 := by
  intro c hc
  obtain ⟨x, _, rfl⟩ := List.mem_map.1 hc
  exact UInt8.toNat_lt x
theorem bytesN_extract (s : ByteArray) (j : Nat) : bytesN (s.extract j s.size) = (bytesN s).drop j := by
  unfold bytesN
  rw [← List.map_drop, ByteArray.data_extract, Array.toList_extract]
  simp
  rw [List.take_of_length_le (by simp)]
theorem bytesN_at (s : ByteArray) (j : Nat) (h : j < s.size) : (bytesN s).drop j = s[j].toNat :: (bytesN s).drop (j + 1) := by
  have hl : j < (bytesN s).length := by rw [bytesN_length]; exact h
  rw [List.drop_eq_getElem_cons hl]
  congr 1
  simp [bytesN, ByteArray.getElem_eq_getElem_data]
theorem encN_ten (l : List Nat) (h : ∀ n ∈ l, n < 2 ^ 64) : (encN l).length ≤ 10 * l.length := by
  induction l with
  | nil => simp [encN]
  | cons n l ih =>
    have h1 := varN_ten (h n List.mem_cons_self)
    have h2 := ih (fun m hm => h m (List.mem_cons_of_mem _ hm))
    simp only [encN, List.flatMap_cons, List.length_append, List.length_cons] at h2 ⊢
    omega
theorem string_of (w : World) (base : Nat) (A : Option Addr) (k c : Nat) (L : List Nat) (hL : ∀ c ∈ L, c < 256) (h : w.ownsRow base 5 1 (.slice A k c) k (byteN L)) :
    ∃ s : ByteArray, (convert 75 9 (.slice A k c)).run Try.prog w = .ok (.string s) w ∧ bytesN s = L := by
  refine ⟨⟨(L.map UInt8.ofNat).toArray⟩, ?_, ?_⟩
  · have hk : k = L.length := by have := h.1; rw [byteN_length] at this; omega
    rcases A with _ | ad
    · have h0 : L = [] := by
        rcases Nat.eq_zero_or_pos k with h0 | h0
        · exact List.eq_nil_of_length_eq_zero (by omega)
        · obtain ⟨g, cap, hv, _⟩ := h.form h0
          cases hv
      subst h0
      subst hk
      exact Lib.run_convert_nil_bytes w _ _ 5 _ Try.underlying75 Try.underlying5 Try.underlying9
    · have hb := run_convert_bytes_back w _ _ 5 ad c (L.map UInt8.ofNat) Try.underlying75 Try.underlying5 Try.underlying9 (fun j hj => ?_)
      · rw [List.length_map, ← hk] at hb
        exact hb
      · have hj' : j < L.length := by simpa using hj
        obtain ⟨ad', e, _, hc⟩ := (Reads.of_own h).2 (by omega)
        obtain rfl := Option.some.inj e
        refine hc j _ ?_
        rw [byteN, List.getElem?_map, List.getElem?_eq_getElem hj', List.getElem_map]
        simp only [Option.map_some, Option.some.injEq, Value.int.injEq, true_and]
        have := hL L[j] (List.getElem_mem hj')
        rw [UInt8.toNat_ofNat']
        omega
  · unfold bytesN
    simp only [List.map_map]
    refine (List.map_congr_left (fun c hc => ?_)).trans (List.map_id L)
    simp only [Function.comp_apply, id]
    rw [UInt8.toNat_ofNat']
    have := hL c hc
    omega
theorem or128 : ∀ r < 256, bits .or .u8 ((r : Nat) : Int) 128 = ((r % 128 + 128 : Nat) : Int) := by decide +kernel
set_option maxRecDepth 100000 in
set_option maxHeartbeats 1000000 in
theorem put_any (base : Nat) (A : Option Addr) (k c : Nat) (L : List Nat) (n : Nat) (w : World) (hown : w.ownsRow base 5 1 (.slice A k c) k (byteN L)) (hb : base ≤ w.heap.size) (hk : k ≤ 1000000000) (hn : n < 2 ^ 64) :
    Calls Try.prog 32 #[.slice A k c, .int .u64 n] w fun e w' => ∃ (A' : Option Addr) (k' c' : Nat), e = .returned (.slice A' k' c') ∧ w'.ownsRow base 5 1 (.slice A' k' c') k' (byteN (L ++ varN n)) ∧
      w.grownBy w' (Value.slice A k c).ownBlock ∧ Moved w (.slice A k c) (.slice A' k' c') := by
  obtain ⟨i0, hi, hz0, hz1, hz2⟩ := info_parts info_u8n
  have hlen := varN_ten hn
  have HN := Lib.hid hn
  have HL := Lib.hid hlen
  clear hlen
  go_enter Try.func32, Try.ntmps32
  go_wp2
  go_loopw [0, 1] (fun o x wr => ∃ (A' : Option Addr) (q c' m : Nat) (P : List Nat), o = .slice A' q c' ∧ x = .int .u64 m ∧ Hid (q = k + P.length) ∧ m < 18446744073709551616 ∧ Hid (P ++ varN m = varN n) ∧ wr.ownsRow base 5 1 (.slice A' q c') q (byteN (L ++ P)) ∧ w.grownBy wr (Value.slice A k c).ownBlock ∧ Hid (Moved w (.slice A k c) (.slice A' q c'))) (fun _ x _ => (intOf x).toNat)
  case atStart => exact ⟨A, k, c, n, [], rfl, rfl, rfl, HN.out, rfl, by simpa using hown, World.grownBy.refl _ _, .inl rfl⟩
  case round =>
    obtain ⟨A', q, c', m, P, rfl, rfl, HQ, hm, HP, hown, hg, HM⟩ := hrel
    have hPl : P.length ≤ 10 := by
      have h1 := congrArg List.length HP.out
      have h2 := HL.out
      rw [List.length_append] at h1
      omega
    by_cases h128 : 128 ≤ m
    · have g1 : decide (128 ≤ m) = true := decide_eq_true h128
      have g2 : decide ((128 : Int) ≤ (m : Int)) = true := decide_eq_true (by omega)
      obtain ⟨x, hx⟩ : ∃ x : Nat, x = m % 128 + 128 := ⟨_, rfl⟩
      have hbits : bits .or .u8 ((m : Int) % 256) 128 = (x : Int) := by
        have := or128 (m % 256) (Nat.mod_lt _ (by decide))
        rw [show ((m % 256 : Nat) : Int) = (m : Int) % 256 by omega] at this
        rw [this, hx]
        congr 2
        omega
      have HX := Lib.hid hx
      have hown3 := hown.alloc (.cells #[.int .u8 (x : Int)] 5)
      have hnew := reads_new wr [.int .u8 (x : Int)] 5 1 1 rfl
      have hq : q ≤ 1000000010 := by have := HQ.out; omega
      have hgs := hg.size
      clear hown hx
      go_wp2_with (at_builtin; refine wpList_append_any _ rfl (.tmp 9) (.tmp 13) 75 rfl base 5 i0 (.int .u8 0) 1 1 Try.underlying75 hi hz0 hz1 hz2 rfl (by decide) (.slice A' q c') q _ rfl hown3 (wr.heap.size + 1) (some ⟨wr.heap.size, 0, none⟩) 1 1 [.int .u8 (x : Int)] rfl hnew (by simp [Value.oneCell']) (by simp [maxLen]; omega) (by omega) (by simp; omega) ?_; rintro v' w4 hown4 hgr hbl -; obtain ⟨A3, c3, rfl⟩ := own_slice hown4)
      obtain ⟨hg4, hM4⟩ := moved_on hg HM.out hgr hbl
      refine ⟨⟨A3, q + 1, c3, m / 128, P ++ [x], rfl, by simp, by show _ = _; rw [HQ.out]; simp; omega, by omega, ?_, ?_, hg4, hM4⟩, ?_⟩
      · show _ = _
        rw [← HP.out, varN_big (n := m) (by omega), HX.out, List.append_assoc]
        rfl
      · rw [← List.append_assoc, byteN_append]
        exact hown4
      · simp [intOf]
        omega
    · have g1 : decide (128 ≤ m) = false := decide_eq_false h128
      have g2 : decide ((128 : Int) ≤ (m : Int)) = false := decide_eq_false (by omega)
      have hown3 := hown.alloc (.cells #[.int .u8 (m : Int)] 5)
      have hnew := reads_new wr [.int .u8 (m : Int)] 5 1 1 rfl
      have hq : q ≤ 1000000010 := by have := HQ.out; omega
      have hgs := hg.size
      clear hown
      go_wp2_with (at_builtin; refine wpList_append_any _ rfl (.tmp 15) (.tmp 18) 75 rfl base 5 i0 (.int .u8 0) 1 1 Try.underlying75 hi hz0 hz1 hz2 rfl (by decide) (.slice A' q c') q _ rfl hown3 (wr.heap.size + 1) (some ⟨wr.heap.size, 0, none⟩) 1 1 [.int .u8 (m : Int)] rfl hnew (by simp [Value.oneCell']) (by simp [maxLen]; omega) (by omega) (by simp; omega) ?_; rintro v' w4 hown4 hgr hbl -; obtain ⟨A3, c3, rfl⟩ := own_slice hown4)
      obtain ⟨hg4, hM4⟩ := moved_on hg HM.out hgr hbl
      go_ret
      refine ⟨A3, q + 1, c3, rfl, ?_, hg4, hM4⟩
      rw [← HP.out, varN_small (n := m) (by omega), ← List.append_assoc, byteN_append]
      exact hown4
theorem put_at (x : Int) (n : Nat) (hx : (n : Int) = x) (base : Nat) (A : Option Addr) (k c : Nat) (L : List Nat) (w : World) (hown : w.ownsRow base 5 1 (.slice A k c) k (byteN L)) (hb : base ≤ w.heap.size) (hk : k ≤ 1000000000) (hn : n < 2 ^ 64) :
    Calls Try.prog 32 #[.slice A k c, .int .u64 x] w fun e w' => ∃ (A' : Option Addr) (k' c' : Nat), e = .returned (.slice A' k' c') ∧ w'.ownsRow base 5 1 (.slice A' k' c') k' (byteN (L ++ varN n)) ∧
      w.grownBy w' (Value.slice A k c).ownBlock ∧ Moved w (.slice A k c) (.slice A' k' c') := by
  subst hx
  exact put_any base A k c L n w hown hb hk hn
end Go.Proofs.Ytbmkbnalembbjaa

namespace Go.Proofs.Ytbmkbnalembbjaa
open Go.RowKit
def RdAt (w : World) (g : Nat) (L : List Nat) (b : Bool) : Prop := ∃ s : ByteArray, Blk w g 80 #[.string s, .bool b] ∧ bytesN s = L ∧ s.size ≤ 1000000000
theorem and127 : ∀ c < 256, bits .and .u8 ((c : Nat) : Int) 127 = ((c % 128 : Nat) : Int) := by decide +kernel
theorem num_val {v c j : Nat} (hc : c < 256) (hv : v < 18446744073709551616) : bits .or .u64 (v : Int) (IntKind.u64.wrap (IntKind.u64.wrap (bits .and .u8 (c : Int) 127) * 2 ^ (7 * j))) = ((v ||| (c % 128 * 2 ^ (7 * j)) % 2 ^ 64 : Nat) : Int) := by
  rw [and127 c hc]
  have e1 : IntKind.u64.wrap ((c % 128 : Nat) : Int) = ((c % 128 : Nat) : Int) := by rw [IntKind.wrap_u64]; omega
  have e2 : IntKind.u64.wrap (((c % 128 : Nat) : Int) * 2 ^ (7 * j)) = (((c % 128 * 2 ^ (7 * j)) % 2 ^ 64 : Nat) : Int) := by
    rw [IntKind.wrap_u64]
    rw [Int.natCast_emod (c % 128 * 2 ^ (7 * j)), Int.natCast_mul, Int.natCast_pow]
    rfl
  rw [e1, e2]
  generalize hm : (c % 128 * 2 ^ (7 * j)) % 2 ^ 64 = m
  have hm64 : m < 2 ^ 64 := by rw [← hm]; exact Nat.mod_lt _ (by decide)
  have hor : v ||| m < 2 ^ 64 := Nat.or_lt_two_pow hv hm64
  have hb : IntKind.u64.bits = 64 := rfl
  unfold bits
  simp
  rw [hb, Nat.mod_eq_of_lt hv, Nat.mod_eq_of_lt hm64, IntKind.wrap_u64]
  omega
theorem num_leaf {L : List Nat} {j v c : Nat} {R : List Nat} (b : Bool) (h : numI 0 0 L = numI j v (L.drop j)) (hd : L.drop j = c :: R) (hc : c < 128) (hj : j < 10) :
    numR L b = (v ||| (c % 128 * 2 ^ (7 * j)) % 2 ^ 64, R, b || decide (c = 0 ∧ 0 < j ∨ j = 9 ∧ 1 < c)) := by
  unfold numR
  rw [h, hd, numI, if_neg (by omega), if_pos hc]
theorem num_more {L : List Nat} {j v c : Nat} {R : List Nat} (h : numI 0 0 L = numI j v (L.drop j)) (hd : L.drop j = c :: R) (hc : ¬ c < 128) (hj : j < 10) :
    numI 0 0 L = numI (j + 1) (v ||| (c % 128 * 2 ^ (7 * j)) % 2 ^ 64) R := by
  rw [h, hd, numI, if_neg (by omega), if_neg hc]
theorem num_none {L : List Nat} {j v : Nat} (b : Bool) (h : numI 0 0 L = numI j v (L.drop j)) (hj : 10 ≤ j ∨ L.length ≤ j) : numR L b = (0, L, true) := by
  unfold numR
  have hn : numI j v (L.drop j) = none := by
    cases hd : L.drop j with
    | nil => rfl
    | cons c R =>
      have h1 := congrArg List.length hd
      simp only [List.length_drop, List.length_cons] at h1
      rw [numI, if_pos (by omega)]
  rw [h, hn]
set_option maxRecDepth 100000 in
set_option maxHeartbeats 4000000 in
theorem num_any (g : Nat) (L : List Nat) (b : Bool) (w : World) (hR : RdAt w g L b) :
    Calls Try.prog 33 #[.pointer (some ⟨g, 0, none⟩)] w fun e w' => e = .returned (.int .u64 (numR L b).1) ∧ RdAt w' g (numR L b).2.1 (numR L b).2.2 ∧ w.grownBy w' (some g) := by
  obtain ⟨s, hB, rfl, hs⟩ := hR
  have k0 := hB.cell 0
  have k1 := hB.cell 1
  simp only [List.getElem?_toArray, List.getElem?_cons_zero, List.getElem?_cons_succ] at k0 k1
  have f0 := hB.frozen 0
  have f1 := hB.frozen 1
  have HB := Lib.hid hB
  have hgr : ∀ (x : Bool) (y : ByteArray), w.grownBy ((w.setCell ⟨g, 1, none⟩ (.bool x)).setCell ⟨g, 0, none⟩ (.string y)) (some g) := fun x y => (grown_cell w g 1 (.bool x)).trans (grown_cell _ g 0 (.string y))
  have hrd : ∀ (x : Bool) (y : ByteArray), Blk ((w.setCell ⟨g, 1, none⟩ (.bool x)).setCell ⟨g, 0, none⟩ (.string y)) g 80 #[.string y, .bool x] := fun x y => (hB.set_ 1 (.bool x)).set_ 0 (.string y)
  have HG := Lib.hid hgr
  have HD := Lib.hid hrd
  clear hB hgr hrd
  go_enter Try.func33, Try.ntmps33
  rcases Nat.lt_or_ge 10 s.size with h10 | h10
  · have g0 : (10 : Int) < (s.size : Int) := by omega
    have g1 : decide ((10 : Int) < (s.size : Int)) = true := decide_eq_true g0
    go_wp2
    go_loopw [3, 12] (fun n i wr => ∃ (j : Nat) (v : Nat), j ≤ 10 ∧ i = .int .i64 j ∧ n = .int .u64 v ∧ Hid (numI 0 0 (bytesN s) = numI j v ((bytesN s).drop j)) ∧ v < 18446744073709551616 ∧ wr = w) (fun _ i _ => 10 - (intOf i).toNat)
    case atStart => exact ⟨0, 0, by omega, rfl, rfl, rfl, by omega, rfl⟩
    case round =>
      obtain ⟨j, v, hj, rfl, rfl, HN, hv, rfl⟩ := hrel
      by_cases hlt : j < 10
      · have hjs : j < s.size := by omega
        have hj10 : j < 10 := by omega
        have hd := bytesN_at s j hjs
        obtain ⟨c, hc⟩ : ∃ c : Nat, s[j].toNat = c := ⟨_, rfl⟩
        rw [hc] at hd
        have hc256 : c < 256 := by rw [← hc]; exact UInt8.toNat_lt _
        have hval := num_val (v := v) (j := j) hc256 hv
        have hv2 : v ||| (c % 128 * 2 ^ (7 * j)) % 2 ^ 64 < 18446744073709551616 := Nat.or_lt_two_pow hv (Nat.mod_lt _ (by decide))
        have HL := Lib.hid (fun (b : Bool) hc => num_leaf b HN.out hd hc hj10)
        have HM := Lib.hid (fun hc => num_more HN.out hd hc hj10)
        generalize v ||| (c % 128 * 2 ^ (7 * j)) % 2 ^ 64 = v' at *
        clear hd
        by_cases h128 : c < 128
        · have g2 : decide (c < 128) = true := decide_eq_true h128
          have g3 : decide ((c : Int) < 128) = true := decide_eq_true (by omega)
          obtain ⟨x1, hx1⟩ : ∃ x : Bool, ((c : Int) == 0) = x := ⟨_, rfl⟩
          obtain ⟨x2, hx2⟩ : ∃ x : Bool, decide (0 < j) = x := ⟨_, rfl⟩
          obtain ⟨x3, hx3⟩ : ∃ x : Bool, ((j : Int) == 9) = x := ⟨_, rfl⟩
          obtain ⟨x4, hx4⟩ : ∃ x : Bool, decide (1 < c) = x := ⟨_, rfl⟩
          have hx5 : decide ((1 : Int) < (c : Int)) = x4 := by rw [← hx4]; by_cases h : 1 < c <;> simp [h] <;> omega
          have HX : Hid (decide (c = 0 ∧ 0 < j ∨ j = 9 ∧ 1 < c) = (x1 && x2 || x3 && x4)) := by
            show _ = _
            rw [← hx1, ← hx2, ← hx3, ← hx4]
            rw [Bool.eq_iff_iff]
            simp only [decide_eq_true_eq, Bool.or_eq_true, Bool.and_eq_true, beq_iff_eq]
            omega
          have h128' := Lib.hid h128
          clear h128
          cases b
          · cases x1 <;> cases x2 <;> cases x3 <;> cases x4 <;>
            (go_wp2
             go_ret
             rw [HL.out false h128'.out, HX.out]
             exact ⟨by first | rfl | simp, ⟨_, HD.out _ _, bytesN_extract s (j + 1), by rw [ByteArray.size_extract]; omega⟩, HG.out _ _⟩)
          · go_wp2
            go_ret
            rw [HL.out true h128'.out]
            exact ⟨by first | rfl | simp, ⟨_, HD.out _ _, bytesN_extract s (j + 1), by rw [ByteArray.size_extract]; omega⟩, HG.out _ _⟩
        · have g2 : decide (c < 128) = false := decide_eq_false h128
          have g3 : decide ((c : Int) < 128) = false := decide_eq_false (by omega)
          go_wp2
          exact ⟨⟨j + 1, v', by omega, by simp, rfl, HM.out h128, hv2, by first | rfl | trivial⟩, by simp [intOf]; omega⟩
      · obtain rfl : j = 10 := by omega
        have HE := Lib.hid (num_none b HN.out (by rw [bytesN_length]; omega))
        go_wp2
        go_ret
        rw [HE.out]
        exact ⟨rfl, ⟨s, HB.out.set_ 1 (.bool true), rfl, hs⟩, grown_cell _ g 1 _⟩
  · have g0 : ¬ ((10 : Int) < (s.size : Int)) := by omega
    have g1 : decide ((10 : Int) < (s.size : Int)) = false := decide_eq_false g0
    go_wp2
    go_loopw [3, 12] (fun n i wr => ∃ (j : Nat) (v : Nat), j ≤ s.size ∧ i = .int .i64 j ∧ n = .int .u64 v ∧ Hid (numI 0 0 (bytesN s) = numI j v ((bytesN s).drop j)) ∧ v < 18446744073709551616 ∧ wr = w) (fun _ i _ => s.size - (intOf i).toNat)
    case atStart => exact ⟨0, 0, by omega, rfl, rfl, rfl, by omega, rfl⟩
    case round =>
      obtain ⟨j, v, hj, rfl, rfl, HN, hv, rfl⟩ := hrel
      by_cases hlt : j < s.size
      · have hjs : j < s.size := by omega
        have hj10 : j < 10 := by omega
        have hd := bytesN_at s j hjs
        obtain ⟨c, hc⟩ : ∃ c : Nat, s[j].toNat = c := ⟨_, rfl⟩
        rw [hc] at hd
        have hc256 : c < 256 := by rw [← hc]; exact UInt8.toNat_lt _
        have hval := num_val (v := v) (j := j) hc256 hv
        have hv2 : v ||| (c % 128 * 2 ^ (7 * j)) % 2 ^ 64 < 18446744073709551616 := Nat.or_lt_two_pow hv (Nat.mod_lt _ (by decide))
        have HL := Lib.hid (fun (b : Bool) hc => num_leaf b HN.out hd hc hj10)
        have HM := Lib.hid (fun hc => num_more HN.out hd hc hj10)
        generalize v ||| (c % 128 * 2 ^ (7 * j)) % 2 ^ 64 = v' at *
        clear hd
        by_cases h128 : c < 128
        · have g2 : decide (c < 128) = true := decide_eq_true h128
          have g3 : decide ((c : Int) < 128) = true := decide_eq_true (by omega)
          obtain ⟨x1, hx1⟩ : ∃ x : Bool, ((c : Int) == 0) = x := ⟨_, rfl⟩
          obtain ⟨x2, hx2⟩ : ∃ x : Bool, decide (0 < j) = x := ⟨_, rfl⟩
          obtain ⟨x3, hx3⟩ : ∃ x : Bool, ((j : Int) == 9) = x := ⟨_, rfl⟩
          obtain ⟨x4, hx4⟩ : ∃ x : Bool, decide (1 < c) = x := ⟨_, rfl⟩
          have hx5 : decide ((1 : Int) < (c : Int)) = x4 := by rw [← hx4]; by_cases h : 1 < c <;> simp [h] <;> omega
          have HX : Hid (decide (c = 0 ∧ 0 < j ∨ j = 9 ∧ 1 < c) = (x1 && x2 || x3 && x4)) := by
            show _ = _
            rw [← hx1, ← hx2, ← hx3, ← hx4]
            rw [Bool.eq_iff_iff]
            simp only [decide_eq_true_eq, Bool.or_eq_true, Bool.and_eq_true, beq_iff_eq]
            omega
          have h128' := Lib.hid h128
          clear h128
          cases b
          · cases x1 <;> cases x2 <;> cases x3 <;> cases x4 <;>
            (go_wp2
             go_ret
             rw [HL.out false h128'.out, HX.out]
             exact ⟨by first | rfl | simp, ⟨_, HD.out _ _, bytesN_extract s (j + 1), by rw [ByteArray.size_extract]; omega⟩, HG.out _ _⟩)
          · go_wp2
            go_ret
            rw [HL.out true h128'.out]
            exact ⟨by first | rfl | simp, ⟨_, HD.out _ _, bytesN_extract s (j + 1), by rw [ByteArray.size_extract]; omega⟩, HG.out _ _⟩
        · have g2 : decide (c < 128) = false := decide_eq_false h128
          have g3 : decide ((c : Int) < 128) = false := decide_eq_false (by omega)
          go_wp2
          exact ⟨⟨j + 1, v', by omega, by simp, rfl, HM.out h128, hv2, by first | rfl | trivial⟩, by simp [intOf]; omega⟩
      · obtain rfl : j = s.size := by omega
        have HE := Lib.hid (num_none b HN.out (by rw [bytesN_length]; omega))
        go_wp2
        go_ret
        rw [HE.out]
        exact ⟨rfl, ⟨s, HB.out.set_ 1 (.bool true), rfl, hs⟩, grown_cell _ g 1 _⟩
end Go.Proofs.Ytbmkbnalembbjaa
