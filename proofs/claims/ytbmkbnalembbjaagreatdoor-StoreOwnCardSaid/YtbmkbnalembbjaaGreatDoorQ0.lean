/-
  Texts joined: Base AnyOrder Base2 SortInt RootLib IntF CloneInt RootFn Mem AppendFit.
-/
import Derived.WalkKit
import Derived.WalkSpells
import Derived.WalkLawsBesides
import Derived.Lib.Hide
import Derived.Deep.Draws
import Derived.Deep.AppendLies
import Derived.Laws.OwnMore
import Derived.Maps.AppendAt
import Derived.Laws.CopyOwn
import Derived.Laws.MakeOwn
import Derived.Deep.RegionLaw
import Derived.Deep.QuietTactic
import Derived.BigQuiet
import Derived.Orders
import Derived.Test.YtbmkbnalembbjaaGreatDoorRows
import Derived.Shelf.SortM.Plain
import Derived.Shelf.SortM.SortNone
import Derived.Shelf.SlGeneric
import Derived.Ground.SlgmProg
import Derived.Sort.OwnSortedInts
import Derived.Lib.OwnBridge
import Derived.Shelf.SlicesE.DeleteFunc
import Derived.Ground.SlgfProg
import Derived.Shelf.SlicesG.CompactI
import Derived.Ground.SlgnProg
import Derived.IntWalk
import Derived.Lib.AppendZerosOnto
import Derived.Lib.Overlaps
namespace Go.Proofs.YtbmkbnalembbjaaGreatDoor
open Go.RowKit
theorem block_of_add (a : Addr) (n : Nat) : (a.add n).block = a.block := by unfold Addr.add; split <;> rfl
theorem add_of_add (a : Addr) (i j : Nat) : (a.add i).add j = a.add (i + j) := by
  unfold Addr.add
  by_cases hi : i = 0 <;> by_cases hj : j = 0 <;> simp [hi, hj, Nat.add_assoc]
theorem addr_add_pos (a : Addr) (i : Nat) (h : 0 < i) : a.add i = ⟨a.block, a.off + i, none⟩ := by unfold Addr.add; rw [if_neg (by omega)]
def Reads (w : World) (B size : Nat) (A : Option Addr) (n : Nat) (xs : List Value) : Prop :=
  xs.length = n * size ∧ (0 < n → ∃ ad, A = some ad ∧ ad.block < B ∧ ∀ j u, xs[j]? = some u → w.cell? (ad.add j) = some u)
section
variable {w w' : World} {B B' size n : Nat} {A : Option Addr} {xs : List Value}
theorem Reads.none_ : Reads w B size A 0 [] := ⟨by simp, fun h => absurd h (by omega)⟩
theorem Reads.at_ {k : Nat} (h : Reads w B 1 A n xs) (hk : k < n) : ∃ ad u, A = some ad ∧ ad.block < B ∧ xs[k]? = some u ∧ w.cell? (ad.add k) = some u := by
  obtain ⟨ad, e, hb, hc⟩ := h.2 (by omega)
  have hl : k < xs.length := by have := h.1; omega
  exact ⟨ad, xs[k], e, hb, List.getElem?_eq_getElem hl, hc k _ (List.getElem?_eq_getElem hl)⟩
theorem Reads.keep (h : Reads w B size A n xs) (hk : ∀ p : Addr, p.block < B → w'.cell? p = w.cell? p) : Reads w' B size A n xs :=
  ⟨h.1, fun hn => by
    obtain ⟨ad, e, hb, hc⟩ := h.2 hn
    exact ⟨ad, e, hb, fun j u hu => (hk _ (by rw [block_of_add]; exact hb)).trans (hc j u hu)⟩⟩
theorem Reads.more (h : Reads w B size A n xs) (hB : B ≤ B') : Reads w B' size A n xs :=
  ⟨h.1, fun hn => by
    obtain ⟨ad, e, hb, hc⟩ := h.2 hn
    exact ⟨ad, e, by omega, hc⟩⟩
theorem Reads.below (h : Reads w B size A n xs) (hb : Below B w w') : Reads w' B size A n xs := h.keep fun _ hp => hb.cell hp
theorem Reads.drew (h : Reads w B size A n xs) : Reads w.drew B size A n xs := h
theorem Reads.drewN (h : Reads w B size A n xs) (k : Nat) : Reads (w.drewN k) B size A n xs := h
theorem Reads.alloc (h : Reads w B size A n xs) (hB : B ≤ w.heap.size) (o : Obj) : Reads (w.alloc o) B size A n xs := h.keep fun p hp => World.cell?_alloc_lt w o p (by omega)
theorem Reads.setCell (h : Reads w B size A n xs) {p : Addr} (hB : B ≤ p.block) (u : Value) : Reads (w.setCell p u) B size A n xs :=
  h.keep fun q hq => World.cell?_setCell_other w p q u (fun e => by subst e; omega)
theorem Reads.grown (h : Reads w B size A n xs) {row : Option Nat} (hg : w.grownBy w' row) (hB : B ≤ w.heap.size) (hr : ∀ g, row = some g → B ≤ g) : Reads w' B size A n xs :=
  h.keep fun p hp => World.cell?_of_block (hg.block p.block (by omega) (fun e => by have := hr _ e.symm; omega))
theorem Reads.cut (h : Reads w B size A n xs) {k cap : Nat} (hk : k ≤ n) (hc : n ≤ cap) :
    Reads w B size (if cap = k then A else A.map (·.add (k * size))) (n - k) (xs.drop (k * size)) := by
  refine ⟨by rw [List.length_drop, h.1, Nat.sub_mul], fun hn => ?_⟩
  obtain ⟨ad, rfl, hb, hcell⟩ := h.2 (by omega)
  rw [if_neg (by omega)]
  refine ⟨ad.add (k * size), rfl, by rw [block_of_add]; exact hb, fun j u hu => ?_⟩
  rw [add_of_add]
  exact hcell _ u (by rw [← hu, List.getElem?_drop])
theorem Reads.of_own {base : Nat} {e : TypeId} {c : Nat} (h : w.ownsRow base e size (.slice A n c) n xs) : Reads w w.heap.size size A n xs := by
  refine ⟨h.1, fun hn => ?_⟩
  obtain ⟨g, cap, hv, _, hlt⟩ := h.form hn
  have hA : A = some ⟨g, 0, none⟩ := by injection hv
  subst hA
  exact ⟨_, rfl, hlt, h.cells (g := g) rfl⟩
end
section
variable {P : Program} (w : World)
theorem run_append_of_nil (base : Nat) (t ty e : TypeId) (i : TypeInfo) (size : Nat) (ht : P.underlying t = some (.slice e)) (hi : P.info? e = some i)
    (v : Value) (n : Nat) (xs : List Value) (hown : w.ownsRow base e size v n xs) (c : Nat) : (Builtin.append_ #[t, t] ty #[v, .slice none 0 c]).run P w = .ok v w := by
  rcases hown.2 with ⟨rfl, rfl⟩ | ⟨g, cap, cur, rfl, _, _, hnc, _⟩
  · simp [Builtin.append_, run_underlying ht, sizeOf, typeInfo, hi, Builtin.lenOf, Builtin.firstCells]
  · simp [Builtin.append_, run_underlying ht, sizeOf, typeInfo, hi, Builtin.lenOf, Builtin.firstCells, hnc, storeCells]
theorem run_append_any (base : Nat) (t ty e : TypeId) (i : TypeInfo) (z : Value) (size bytes : Nat) (ht : P.underlying t = some (.slice e)) (hi : P.info? e = some i) (hz : i.zero = some z)
    (hsize : i.size = size) (hby : i.bytes = bytes) (hzs : z.cells.size = size) (hsz : 0 < size)
    (v : Value) (n : Nat) (xs : List Value) (hown : w.ownsRow base e size v n xs)
    (B : Nat) (A : Option Addr) (m c : Nat) (news : List Value) (hr : Reads w B size A m news) (h1 : ∀ u ∈ news, u.oneCell' = true)
    (h63 : n + m ≤ maxLen) (hbytes : (n + m) * bytes ≤ 140737488355328) (hbase : base ≤ w.heap.size) :
    ∃ v' w', (Builtin.append_ #[t, t] ty #[v, .slice A m c]).run P w = .ok v' w' ∧ w'.ownsRow base e size v' (n + m) (xs ++ news) ∧ w.grownBy w' v.ownBlock ∧
      (v'.ownBlock = v.ownBlock ∨ v'.ownBlock = some w.heap.size) ∧ (v' = .slice none 0 0 ↔ v = .slice none 0 0 ∧ m = 0) := by
  rcases A with _ | ad
  · have hm : m = 0 := by
      rcases Nat.eq_zero_or_pos m with h0 | h0
      · exact h0
      · obtain ⟨ad, h, _⟩ := hr.2 h0
        cases h
    subst hm
    have hn : news = [] := List.eq_nil_of_length_eq_zero (by simpa using hr.1)
    subst hn
    exact ⟨v, w, run_append_of_nil w base t ty e i size ht hi v n xs hown c, by simpa using hown, World.grownBy.refl w _, .inl rfl, by simp⟩
  · have hcells : ∀ j u, news[j]? = some u → w.cell? (ad.add j) = some u := by
      intro j u hu
      rcases Nat.eq_zero_or_pos m with h0 | h0
      · subst h0
        have hn : news = [] := List.eq_nil_of_length_eq_zero (by simpa using hr.1)
        subst hn
        simp at hu
      · obtain ⟨ad', h, _, hc⟩ := hr.2 h0
        injection h with h
        subst h
        exact hc j u hu
    obtain ⟨v', w', hrun, h2, h3, h4, h5⟩ := run_append_own_at (P := P) w base t ty e i z size bytes ht hi hz hsize hby hzs hsz v n xs hown ad m c news hr.1 hcells h1 h63 hbytes hbase
    exact ⟨v', w', hrun, h2, h3, h5, h4⟩
theorem wp_append_any {o : Oper} {a : Act} {K : Act → World → Prop} {Q : Exit → Act → World → Prop} (s x : Operand) (t : TypeId)
    (ho : o.op = .call { callee := .builtin .append, args := #[s, x], argTypes := #[t, t] })
    (base : Nat) (e : TypeId) (i : TypeInfo) (z : Value) (size bytes : Nat) (ht : P.underlying t = some (.slice e)) (hi : P.info? e = some i) (hz : i.zero = some z)
    (hsize : i.size = size) (hby : i.bytes = bytes) (hzs : z.cells.size = size) (hsz : 0 < size)
    (v : Value) (n : Nat) (xs : List Value) (hs : a.eval s = v) (hown : w.ownsRow base e size v n xs)
    (B : Nat) (A : Option Addr) (m c : Nat) (news : List Value) (hx : a.eval x = .slice A m c) (hr : Reads w B size A m news) (h1 : ∀ u ∈ news, u.oneCell' = true)
    (h63 : n + m ≤ maxLen) (hbytes : (n + m) * bytes ≤ 140737488355328) (hbase : base ≤ w.heap.size)
    (h : ∀ v' w', w'.ownsRow base e size v' (n + m) (xs ++ news) → w.grownBy w' v.ownBlock → (v'.ownBlock = v.ownBlock ∨ v'.ownBlock = some w.heap.size) → (v' = .slice none 0 0 ↔ v = .slice none 0 0 ∧ m = 0) → K (a.put o.dst v') w') : o.wp P a w K Q := by
  obtain ⟨v', w', hrun, h2, h3, h4, h5⟩ := run_append_any (P := P) w base t o.type e i z size bytes ht hi hz hsize hby hzs hsz v n xs hown B A m c news hr h1 h63 hbytes hbase
  unfold Oper.wp execOp
  simp only [ho, resolve, invoke, builtin, Sem.run_bind, Sem.run_pure, Result.andThen_ok, List.map_toArray, List.map_cons, List.map_nil, hs, hx, hrun]
  exact h v' w' h2 h3 h4 h5
theorem wpList_append_any {ops : Array Oper} {rest : List Oper} {o : Oper} {a : Act} {Q : Exit → Act → World → Prop} (hgd : o.guard = none) (s x : Operand) (t : TypeId)
    (ho : o.op = .call { callee := .builtin .append, args := #[s, x], argTypes := #[t, t] })
    (base : Nat) (e : TypeId) (i : TypeInfo) (z : Value) (size bytes : Nat) (ht : P.underlying t = some (.slice e)) (hi : P.info? e = some i) (hz : i.zero = some z)
    (hsize : i.size = size) (hby : i.bytes = bytes) (hzs : z.cells.size = size) (hsz : 0 < size)
    (v : Value) (n : Nat) (xs : List Value) (hs : a.eval s = v) (hown : w.ownsRow base e size v n xs)
    (B : Nat) (A : Option Addr) (m c : Nat) (news : List Value) (hx : a.eval x = .slice A m c) (hr : Reads w B size A m news) (h1 : ∀ u ∈ news, u.oneCell' = true)
    (h63 : n + m ≤ maxLen) (hbytes : (n + m) * bytes ≤ 140737488355328) (hbase : base ≤ w.heap.size)
    (h : ∀ v' w', w'.ownsRow base e size v' (n + m) (xs ++ news) → w.grownBy w' v.ownBlock → (v'.ownBlock = v.ownBlock ∨ v'.ownBlock = some w.heap.size) → (v' = .slice none 0 0 ↔ v = .slice none 0 0 ∧ m = 0) → wpList P ops Q rest (a.put o.dst v') w') :
    wpList P ops Q (o :: rest) a w :=
  wpList_plain hgd fun _ hK => wp_append_any w s x t ho base e i z size bytes ht hi hz hsize hby hzs hsz v n xs hs hown B A m c news hx hr h1 h63 hbytes hbase fun v' w' h2 h3 h4 h5 => hK _ _ (h v' w' h2 h3 h4 h5)
end
theorem own_slice {w : World} {base : Nat} {e : TypeId} {size n : Nat} {v : Value} {xs : List Value} (h : w.ownsRow base e size v n xs) : ∃ A c, v = .slice A n c := by
  rcases h.2 with ⟨rfl, rfl⟩ | ⟨g, cap, cur, rfl, _⟩
  · exact ⟨_, _, rfl⟩
  · exact ⟨_, _, rfl⟩
theorem own_mono {w : World} {base base' : Nat} {e : TypeId} {size n : Nat} {v : Value} {xs : List Value} (h : w.ownsRow base' e size v n xs) (hb : base ≤ base') : w.ownsRow base e size v n xs := by
  refine ⟨h.1, ?_⟩
  rcases h.2 with h2 | ⟨g, cap, cur, hv, hg, rest⟩
  · exact .inl h2
  · exact .inr ⟨g, cap, cur, hv, by omega, rest⟩
theorem own_cap {w : World} {base : Nat} {e : TypeId} {size n c : Nat} {A : Option Addr} {xs : List Value} (h : w.ownsRow base e size (.slice A n c) n xs) : n ≤ c := by
  rcases h.2 with ⟨h2, rfl⟩ | ⟨g, cap, cur, hv, hg, _, hc, _⟩
  · exact Nat.zero_le _
  · injection hv with _ _ hv; omega
theorem own_below {w w' : World} {base : Nat} {e : TypeId} {size n : Nat} {v : Value} {xs : List Value} (h : w.ownsRow base e size v n xs) (hb : Below w.heap.size w w') : w'.ownsRow base e size v n xs := by
  refine ⟨h.1, ?_⟩
  rcases h.2 with h2 | ⟨g, cap, cur, hv, hg, hh, rest⟩
  · exact .inl h2
  · exact .inr ⟨g, cap, cur, hv, hg, by rw [hb.block g (Array.getElem?_eq_some_iff.1 hh).1]; exact hh, rest⟩
theorem own_open {w : World} {base : Nat} {e : TypeId} {size n c g : Nat} {xs : List Value} (h : w.ownsRow base e size (.slice (some ⟨g, 0, none⟩) n c) n xs) :
    ∃ cur : List Value, base ≤ g ∧ w.heap[g]? = some (.cells cur.toArray e (0, 0)) ∧ n ≤ c ∧ c ≤ maxLen ∧ cur.length = c * size ∧ cur.take (n * size) = xs := by
  rcases h.2 with ⟨h2, rfl⟩ | ⟨g', cap, cur, hv, hg, hh, hc, hm, hs, ht⟩
  · cases h2
  · simp only [Value.slice.injEq, Option.some.injEq, Addr.mk.injEq, and_true, true_and] at hv
    obtain ⟨rfl, rfl⟩ := hv
    exact ⟨cur.toList, hg, by simpa using hh, hc, hm, by simpa using hs, ht⟩
theorem own_close {w : World} {base : Nat} {e : TypeId} {size n c g : Nat} (cur : List Value) (h1 : base ≤ g) (h2 : w.heap[g]? = some (.cells cur.toArray e (0, 0))) (h3 : n ≤ c) (h4 : c ≤ maxLen) (h5 : cur.length = c * size) :
    w.ownsRow base e size (.slice (some ⟨g, 0, none⟩) n c) n (cur.take (n * size)) := by
  have hle : n * size ≤ c * size := Nat.mul_le_mul_right _ h3
  exact ⟨by simp; omega, .inr ⟨g, c, cur.toArray, rfl, h1, h2, h3, h4, by simpa using h5, by simp⟩⟩
theorem take_splice {α : Type} (L : List α) (off n : Nat) (cs : List α) (h : off + cs.length ≤ n) (hL : off ≤ L.length) : (splice L off cs).take n = splice (L.take n) off cs := by
  unfold splice
  rw [List.take_append, List.take_append, List.take_take, List.take_take, Nat.min_eq_right (by omega : off ≤ n), Nat.min_eq_left (by omega : off ≤ n)]
  rw [List.length_take, Nat.min_eq_left hL, List.take_of_length_le (by omega : cs.length ≤ n - off), List.drop_take]
  congr 3
  omega
theorem reads_new (w : World) (cs : List Value) (t : TypeId) (n size : Nat) (h : cs.length = n * size) : Reads (w.alloc (.cells cs.toArray t)) (w.heap.size + 1) size (some ⟨w.heap.size, 0, none⟩) n cs :=
  ⟨h, fun _ => ⟨_, rfl, by simp, fun j u hu => by
    rw [Addr.add_lit, Nat.zero_add, cell_of_row _ _ _ _ _ _ (heap_alloc_new w _)]
    simpa using hu⟩⟩
theorem below_drewN {B : Nat} {a w : World} (h : Below B a w) (n : Nat) : Below B a (w.drewN n) := ⟨h.os, h.tape, h.output, h.size, h.block⟩
theorem below_step {w w1 w2 : World} (a1 : Below w.heap.size w w1) (a2 : Below w1.heap.size w1 w2) : Below w.heap.size w w2 := a1.trans (a2.mono a1.size)
theorem below_new (w : World) (o : Obj) : Below w.heap.size w (w.alloc o) := (Below.refl _ _).alloc (Nat.le_refl _) _
theorem bcell {W w1 : World} (hb : Below W.heap.size W w1) : (∀ b o, b < W.heap.size → w1.cell? ⟨b, o, none⟩ = W.cell? ⟨b, o, none⟩) ∧ (∀ b o, b < W.heap.size → w1.frozen? ⟨b, o, none⟩ = W.frozen? ⟨b, o, none⟩) :=
  ⟨fun b o h => hb.cell (p := ⟨b, o, none⟩) h, fun b o h => hb.frozen (p := ⟨b, o, none⟩) h⟩
def Blk (w : World) (g : Nat) (t : TypeId) (cs : Array Value) : Prop := w.heap[g]? = some (.cells cs t (0, 0))
section
variable {w w' : World} {g : Nat} {t : TypeId} {cs : Array Value}
theorem Blk.lt (h : Blk w g t cs) : g < w.heap.size := by
  rcases Nat.lt_or_ge g w.heap.size with hlt | hge
  · exact hlt
  · unfold Blk at h; rw [Array.getElem?_eq_none hge] at h; cases h
theorem Blk.cell (h : Blk w g t cs) (i : Nat) : w.cell? ⟨g, i, none⟩ = cs[i]? := cell_of_row w g i cs t (0, 0) h
theorem Blk.frozen (h : Blk w g t cs) (i : Nat) : w.frozen? ⟨g, i, none⟩ = false := by
  unfold Blk at h
  simp [World.frozen?, h]
theorem Blk.new (w : World) (t : TypeId) (cs : Array Value) : Blk (w.alloc (.cells cs t)) w.heap.size t cs := heap_alloc_new w _
theorem Blk.drew (h : Blk w g t cs) : Blk w.drew g t cs := h
theorem Blk.drewN (h : Blk w g t cs) (n : Nat) : Blk (w.drewN n) g t cs := h
theorem Blk.alloc (h : Blk w g t cs) (o : Obj) : Blk (w.alloc o) g t cs := (Below.heap_alloc w o g h.lt).trans h
theorem Blk.set_ (h : Blk w g t cs) (i : Nat) (u : Value) : Blk (w.setCell ⟨g, i, none⟩ u) g t (cs.setIfInBounds i u) := by
  unfold Blk at h ⊢
  simp [World.setCell, Array.getElem?_modify, h]
theorem Blk.far (h : Blk w g t cs) {p : Addr} (hp : g ≠ p.block) (u : Value) : Blk (w.setCell p u) g t cs := (Below.heap_setCell w p u g hp).trans h
theorem Blk.below {B : Nat} (h : Blk w g t cs) (hb : Below B w w') (hg : g < B) : Blk w' g t cs := (hb.block g hg).trans h
end
theorem flat_length {α : Type} (f : α → List Value) (k : Nat) (hf : ∀ a, (f a).length = k) (l : List α) : (l.flatMap f).length = l.length * k := by
  induction l with
  | nil => simp
  | cons a l ih => rw [List.flatMap_cons, List.length_append, ih, hf, List.length_cons, Nat.add_mul]; omega
theorem flat_at {α : Type} (f : α → List Value) (k : Nat) (hf : ∀ a, (f a).length = k) (l : List α) (j i : Nat) (hj : j < l.length) (hi : i < k) : (l.flatMap f)[j * k + i]? = (f l[j])[i]? := by
  induction l generalizing j with
  | nil => simp at hj
  | cons a l ih =>
    rw [List.flatMap_cons]
    cases j with
    | zero => rw [List.getElem?_append_left (by rw [hf]; omega)]; simp
    | succ j =>
      rw [List.getElem?_append_right (by rw [hf, Nat.add_mul]; omega)]
      have : (j + 1) * k + i - (f a).length = j * k + i := by rw [hf, Nat.add_mul]; omega
      rw [this]
      exact ih j (by simpa using hj)
def ixOf {α : Type} (p : α → Bool) (l : List α) : Int := match l.findIdx? p with | some i => (i : Int) | none => -1
theorem ixOf_some {α : Type} {p : α → Bool} {l : List α} {i : Nat} {s : α} (h : l[i]? = some s) (hs : p s = true) (hb : ∀ x ∈ l.take i, p x = false) : ixOf p l = i := by
  unfold ixOf
  have : l.findIdx? p = some i := by
    obtain ⟨hl, rfl⟩ := List.getElem?_eq_some_iff.1 h
    rw [List.findIdx?_eq_some_iff_getElem]
    refine ⟨hl, hs, fun j hj => ?_⟩
    have := hb l[j] (by rw [List.mem_take_iff_getElem]; exact ⟨j, by omega, rfl⟩)
    rw [this]
    simp
  rw [this]
theorem ixOf_none {α : Type} {p : α → Bool} {l : List α} (hb : ∀ x ∈ l, p x = false) : ixOf p l = -1 := by
  unfold ixOf
  rw [List.findIdx?_eq_none_iff.2 hb]
theorem ixOf_nonneg {α : Type} (p : α → Bool) (l : List α) : decide (0 ≤ ixOf p l) = l.any p := by
  unfold ixOf
  cases h : l.findIdx? p with
  | none =>
    rw [List.findIdx?_eq_none_iff] at h
    have : l.any p = false := by rw [List.any_eq_false]; intro x hx; rw [h x hx]; decide
    rw [this]
    decide
  | some i =>
    obtain ⟨hl, hs, _⟩ := List.findIdx?_eq_some_iff_getElem.1 h
    have : l.any p = true := List.any_eq_true.2 ⟨l[i], List.getElem_mem hl, hs⟩
    rw [this]
    simp
theorem ixOf_cases {α : Type} (p : α → Bool) (l : List α) : (ixOf p l = -1 ∧ ∀ x ∈ l, p x = false) ∨ ∃ (i : Nat) (s : α), ixOf p l = i ∧ l[i]? = some s ∧ p s = true ∧ ∀ x ∈ l.take i, p x = false := by
  unfold ixOf
  cases h : l.findIdx? p with
  | none => exact .inl ⟨rfl, List.findIdx?_eq_none_iff.1 h⟩
  | some i =>
    obtain ⟨hl, hs, hb⟩ := List.findIdx?_eq_some_iff_getElem.1 h
    refine .inr ⟨i, l[i], rfl, List.getElem?_eq_getElem hl, hs, fun x hx => ?_⟩
    rw [List.mem_take_iff_getElem] at hx
    obtain ⟨j, hj, rfl⟩ := hx
    have := hb j (by omega)
    simpa using this
theorem take_succ_mem {α : Type} {l : List α} {j : Nat} {s : α} (hs : l[j]? = some s) : ∀ x ∈ l.take (j + 1), x ∈ l.take j ∨ x = s := by
  intro x hx
  obtain ⟨hl, rfl⟩ := List.getElem?_eq_some_iff.1 hs
  rw [List.take_succ_eq_append_getElem hl, List.mem_append, List.mem_singleton] at hx
  exact hx
theorem Reads.num {w : World} {B n k : Nat} {A : Option Addr} {kd : IntKind} {xs : List Int} (h : Reads w B 1 A n (xs.map (.int kd))) (hk : k < n) :
    ∃ ad x, A = some ad ∧ ad.block < B ∧ xs[k]? = some x ∧ w.cell? (ad.add k) = some (.int kd x) := by
  obtain ⟨ad, u, e, hb, hx, hc⟩ := h.at_ hk
  have hl : k < xs.length := by have := h.1; simp at this; omega
  rw [List.getElem?_map, List.getElem?_eq_getElem hl] at hx
  obtain rfl : u = .int kd xs[k] := by simpa using hx.symm
  exact ⟨ad, xs[k], e, hb, List.getElem?_eq_getElem hl, hc⟩
theorem run_make_rowN {P : Program} (t e : TypeId) (i : TypeInfo) (z : Value) (ht : P.underlying t = some (.slice e)) (hi : P.info? e = some i) (hz : i.zero = some z)
    (kl kc : IntKind) (n c : Nat) (hnc : n ≤ c) (hbytes : i.bytes * c ≤ 281474976710656) (h63 : c ≤ 9223372036854775807) (w : World) :
    (Instr.makeSlice t (.int kl (n : Int)) (.int kc (c : Int))).run P w = .ok (.slice (some ⟨w.heap.size, 0, none⟩) n c) (w.alloc (.cells (madeCells z.cells (c * i.size)) e)) := by
  have hb : (i.bytes : Int) * (c : Int) ≤ 281474976710656 := by
    have h : ((i.bytes * c : Nat) : Int) ≤ 281474976710656 := by omega
    rwa [Int.natCast_mul] at h
  have hr := run_make (P := P) w t e i z ht hi hz kl kc n c (by omega) (by omega) hb (by omega)
  simp only [Int.toNat_natCast] at hr
  exact hr
theorem madeCells_one (z : Value) (n : Nat) : madeCells #[z] n = (List.replicate n z).toArray := by
  apply Array.ext
  · simp [madeCells]
  · intro i h1 h2
    have : i % 1 = 0 := Nat.mod_one i
    simp [madeCells, this]
theorem own_make1 (w : World) (base : Nat) (e : TypeId) (z : Value) (n : Nat) (cs : Array Value) (hcs : cs = madeCells #[z] n) (hb : base ≤ w.heap.size) (hm : n ≤ maxLen) :
    (w.alloc (.cells cs e)).ownsRow base e 1 (.slice (some ⟨w.heap.size, 0, none⟩) n n) n (List.replicate n z) := by
  subst hcs
  rw [madeCells_one]
  have h := own_close (w := w.alloc (.cells (List.replicate n z).toArray e)) (base := base) (e := e) (size := 1) (n := n) (c := n) (g := w.heap.size) (List.replicate n z) hb (heap_alloc_new w _) (Nat.le_refl _) hm (by simp)
  rwa [List.take_of_length_le (by simp)] at h
theorem ret_int {k : IntKind} {a b : Int} (h : a = b) : Ending.returned (.int k a) = .returned (.int k b) := by rw [h]
end Go.Proofs.YtbmkbnalembbjaaGreatDoor

namespace Go.Proofs.YtbmkbnalembbjaaGreatDoor
open Go.RowKit
theorem count_set (l : List Bool) (i : Nat) (h : l[i]? = some false) : (l.set i true).count false + 1 = l.count false := by
  induction l generalizing i with
  | nil => simp at h
  | cons b t ih =>
    cases i with
    | zero =>
      simp only [List.getElem?_cons_zero, Option.some.injEq] at h
      subst h
      simp [List.count_cons]
    | succ i =>
      simp only [List.getElem?_cons_succ] at h
      have := ih i h
      simp only [List.set_cons_succ, List.count_cons]
      omega
theorem wpAny_inv {P : Program} {md : Region.Mode} {ops : Array Oper} {Q : Exit → Act → World → Prop} (I : Array Bool → Act → World → Prop)
    (hend : ∀ listed a w, I listed a w → Region.ready md ops listed = [] → Q .normal a w)
    (hstep : ∀ listed a w i, I listed a w → i ∈ Region.ready md ops listed → wpOp P ops Q i (I (listed.setIfInBounds i true)) a w) :
    ∀ (fuel : Nat) (listed : Array Bool) (a : Act) (w : World), I listed a w → listed.toList.count false ≤ fuel → wpAny P md ops Q fuel listed a w := by
  intro fuel
  induction fuel with
  | zero =>
    intro listed a w h hc
    have hr : Region.ready md ops listed = [] := by
      cases hr : Region.ready md ops listed with
      | nil => rfl
      | cons i t =>
        have hi := (mem_ready.1 (show i ∈ Region.ready md ops listed by rw [hr]; simp)).1
        have h1 : listed.toList[i]? = some false := by
          rcases Nat.lt_or_ge i listed.size with h' | h'
          · simp [h'] at hi ⊢; exact hi
          · simp [Array.getElem?_eq_none h'] at hi
        have := count_set _ _ h1
        omega
    exact ⟨hr, hend _ _ _ h hr⟩
  | succ fuel ih =>
    intro listed a w h hc
    refine ⟨fun hr => hend _ _ _ h hr, fun i hi => ?_⟩
    refine wpOp_mono (fun a' w' h' => ih _ _ _ h' ?_) (hstep _ _ _ _ h hi)
    have hi2 := (mem_ready.1 hi).1
    have h1 : listed.toList[i]? = some false := by
      rcases Nat.lt_or_ge i listed.size with h' | h'
      · simp [h'] at hi2 ⊢; exact hi2
      · simp [Array.getElem?_eq_none h'] at hi2
    have := count_set _ _ h1
    rw [Array.toList_setIfInBounds]
    omega
theorem wpAny_inv2 {P : Program} {md : Region.Mode} {ops : Array Oper} {Q : Exit → Act → World → Prop} (I : Act → Array Bool → Act → World → Prop) (a0 : Act) (fuel : Nat) (listed : Array Bool) (w : World)
    (hend : ∀ listed a w, I a0 listed a w → Region.ready md ops listed = [] → Q .normal a w)
    (hstep : ∀ listed a w i, I a0 listed a w → i ∈ Region.ready md ops listed → wpOp P ops Q i (I a0 (listed.setIfInBounds i true)) a w)
    (h : I a0 listed a0 w) (hc : listed.toList.count false ≤ fuel) : wpAny P md ops Q fuel listed a0 w := wpAny_inv (I a0) hend hstep fuel listed a0 w h hc
theorem put_self (s : Act) (d : Nat) : s.put (some d) (s.tmps.getD d undef) = s := by
  unfold Act.put
  dsimp only
  have h : s.tmps.setIfInBounds d (s.tmps.getD d undef) = s.tmps := by
    apply Array.ext_getElem?
    intro i
    by_cases hi : i = d
    · subst hi
      rcases Nat.lt_or_ge i s.tmps.size with h' | h'
      · simp [h']
      · simp [h']
    · rw [Array.getElem?_setIfInBounds_ne (Ne.symm hi)]
  rw [h]
def onto (K : Act → World → Prop) (Q : Exit → Act → World → Prop) : Exit → Act → World → Prop
  | .normal, a, w => K a w
  | e, a, w => Q e a w
theorem wpOp_list {P : Program} {ops : Array Oper} {Q : Exit → Act → World → Prop} {K : Act → World → Prop} {i : Nat} {a : Act} {w : World} {o : Oper} (hi : ops[i]? = some o) (h : wpList P ops (onto K Q) [o] a w) : wpOp P ops Q i K a w := by
  unfold wpOp
  rw [hi]
  unfold wpList at h
  dsimp only
  split
  · rename_i hw
    rw [if_pos hw] at h
    rcases h with h | h
    · left
      unfold Oper.wp at *
      generalize (execOp a.eval o).run P w = r at *
      cases r with
      | ok n w' => cases n <;> exact h
      | halt x w' => cases x <;> exact h
    · exact .inr h
  · rename_i hw
    rw [if_neg hw] at h
    exact h
def Dn (l : Array Bool) (j : Nat) : Prop := l.getD j false = true
theorem Dn.set {l : Array Bool} {i j : Nat} (hi : i < l.size) : Dn (l.setIfInBounds i true) j ↔ j = i ∨ Dn l j := by
  unfold Dn
  by_cases h : j = i
  · subst h
    simp [hi]
  · simp only [h, false_or]
    rw [getD_set_ne false (Ne.symm h)]
theorem Dn.none {n j : Nat} : ¬ Dn (Array.replicate n false) j := by
  unfold Dn
  simp only [Array.getD_eq_getD_getElem?, Array.getElem?_replicate]
  split <;> simp
theorem Dn.of_ready {md : Region.Mode} {ops : Array Oper} {l : Array Bool} {i : Nat} (h : i ∈ Region.ready md ops l) (hs : l.size = ops.size) : i < l.size ∧ ¬ Dn l i ∧ ∃ o, ops[i]? = some o ∧ ∀ e ∈ o.after, Region.binds md e = true → Dn l e.on := by
  obtain ⟨h1, o, ho, h2⟩ := mem_ready.1 h
  have hl : i < l.size := by rw [hs]; exact (Array.getElem?_eq_some_iff.1 ho).1
  refine ⟨hl, ?_, o, ho, fun e he hb => h2 e he hb⟩
  unfold Dn
  simp [hl] at h1 ⊢
  exact h1
def Closed (md : Region.Mode) (ops : Array Oper) (l : Array Bool) : Prop := ∀ i o, ops[i]? = some o → Dn l i → ∀ e ∈ o.after, Region.binds md e = true → Dn l e.on
theorem wpAny_inv3 {P : Program} {md : Region.Mode} {ops : Array Oper} {Q : Exit → Act → World → Prop} (I : Act → Array Bool → Act → World → Prop) (a0 : Act) (w : World)
    (hend : ∀ l a w, I a0 l a w → l.size = ops.size → Region.ready md ops l = [] → Q .normal a w)
    (hstep : ∀ l a w i o, I a0 l a w → Closed md ops l → i < l.size → ¬ Dn l i → ops[i]? = some o → (∀ e ∈ o.after, Region.binds md e = true → Dn l e.on) → wpOp P ops Q i (I a0 (l.setIfInBounds i true)) a w)
    (h : I a0 (Array.replicate ops.size false) a0 w) : wpAny P md ops Q ops.size (Array.replicate ops.size false) a0 w := by
  refine wpAny_inv2 (I := fun a0 l a w => I a0 l a w ∧ Closed md ops l ∧ l.size = ops.size) a0 _ _ w ?_ ?_ ⟨h, fun i o _ hd => absurd hd Dn.none, by simp⟩ ?_
  · intro l a w hI hr
    exact hend l a w hI.1 hI.2.2 hr
  · intro l a w i hI hi
    obtain ⟨h1, h2, o, h3, h4⟩ := Dn.of_ready hi hI.2.2
    refine wpOp_mono (fun a' w' h' => ⟨h', fun j oj hj hd e he hb => ?_, by rw [Array.size_setIfInBounds]; exact hI.2.2⟩) (hstep l a w i o hI.1 hI.2.1 h1 h2 h3 h4)
    rcases (Dn.set h1).1 hd with rfl | hd
    · obtain rfl := Option.some.inj (h3.symm.trans hj)
      exact (Dn.set h1).2 (.inr (h4 e he hb))
    · exact (Dn.set h1).2 (.inr (hI.2.1 j oj hj hd e he hb))
  · rw [Array.toList_replicate, List.count_replicate]
    simp
theorem pre_dn {md : Region.Mode} {ops : Array Oper} {l : Array Bool} {i : Nat} {o : Oper} (ho : ops[i]? = some o) (haf : ∀ e ∈ o.after, Region.binds md e = true → Dn l e.on) (j : Nat) (hx : (((ops[i]?).map fun o => o.after.toList.any fun e => e.on == j && Region.binds md e).getD false) = true) : Dn l j := by
  rw [ho] at hx
  simp only [Option.map_some, Option.getD_some] at hx
  obtain ⟨e, he, h⟩ := List.any_eq_true.1 hx
  simp only [Bool.and_eq_true, beq_iff_eq] at h
  have := haf e (Array.mem_toList_iff.1 he) h.2
  rwa [h.1] at this
theorem Closed.dn {md : Region.Mode} {ops : Array Oper} {l : Array Bool} {i : Nat} (h : Closed md ops l) (hd : Dn l i) (j : Nat) (hx : (((ops[i]?).map fun o => o.after.toList.any fun e => e.on == j && Region.binds md e).getD false) = true) : Dn l j := by
  cases ho : ops[i]? with
  | none =>
    rw [ho] at hx
    cases hx
  | some o => exact pre_dn ho (h i o ho hd) j hx
theorem onto_normal {K : Act → World → Prop} {Q : Exit → Act → World → Prop} {a : Act} {w : World} (h : K a w) : onto K Q .normal a w := h
end Go.Proofs.YtbmkbnalembbjaaGreatDoor

namespace Go.Proofs.YtbmkbnalembbjaaGreatDoor
open Go.RowKit
theorem Blk.grown {w w' : World} {g : Nat} {t : TypeId} {cs : Array Value} {row : Option Nat} (h : Blk w g t cs) (hb : w.grownBy w' row) (hg : some g ≠ row) : Blk w' g t cs := (hb.block g h.lt hg).trans h
theorem Blk.ne_ {w : World} {g g' : Nat} {t t' : TypeId} {cs cs' : Array Value} (h : Blk w g t cs) (h' : Blk w g' t' cs') (hne : t ≠ t') : g ≠ g' := by
  rintro rfl
  unfold Blk at h h'
  rw [h] at h'
  injection h' with h'
  injection h' with _ ht
  exact hne ht
theorem own_far {w : World} {base : Nat} {e : TypeId} {size n : Nat} {v : Value} {xs : List Value} (h : w.ownsRow base e size v n xs) {p : Addr} (hp : p.block < base) (u : Value) : (w.setCell p u).ownsRow base e size v n xs := by
  refine ⟨h.1, ?_⟩
  rcases h.2 with h2 | ⟨g, cap, cur, hv, hg, hh, rest⟩
  · exact .inl h2
  · exact .inr ⟨g, cap, cur, hv, hg, by rw [Below.heap_setCell w p u g (by omega)]; exact hh, rest⟩
theorem own_apart {w : World} {base : Nat} {e : TypeId} {size n : Nat} {v : Value} {xs : List Value} (h : w.ownsRow base e size v n xs) {p : Addr} (hp : v.ownBlock ≠ some p.block) (u : Value) : (w.setCell p u).ownsRow base e size v n xs := by
  refine ⟨h.1, ?_⟩
  rcases h.2 with h2 | ⟨g, cap, cur, hv, hg, hh, rest⟩
  · exact .inl h2
  · refine .inr ⟨g, cap, cur, hv, hg, ?_, rest⟩
    rw [Below.heap_setCell w p u g (by subst hv; simpa [Value.ownBlock] using hp)]
    exact hh
theorem own_ge {w : World} {base : Nat} {e : TypeId} {size n : Nat} {v : Value} {xs : List Value} (h : w.ownsRow base e size v n xs) {g : Nat} (hg : v.ownBlock = some g) : base ≤ g := (h.lt g hg).1
theorem own_grown {w w' : World} {base : Nat} {e : TypeId} {size n : Nat} {v : Value} {xs : List Value} {row : Option Nat} (h : w.ownsRow base e size v n xs) (hg : w.grownBy w' row) (hne : ∀ g, v.ownBlock = some g → row ≠ some g) : w'.ownsRow base e size v n xs := by
  refine ⟨h.1, ?_⟩
  rcases h.2 with h2 | ⟨g, cap, cur, hv, hb, hh, rest⟩
  · exact .inl h2
  · refine .inr ⟨g, cap, cur, hv, hb, ?_, rest⟩
    have := hne g (by subst hv; rfl)
    rw [hg.block g (Array.getElem?_eq_some_iff.1 hh).1 (fun e => this e.symm)]
    exact hh
theorem step_append_any {P : Program} (w : World) {ops : Array Oper} {o : Oper} {a : Act} {K : Act → World → Prop} {Q : Exit → Act → World → Prop} {E : Prop} (hgd : o.guard = none) (s x : Operand) (t : TypeId)
    (ho : o.op = .call { callee := .builtin .append, args := #[s, x], argTypes := #[t, t] })
    (base : Nat) (e : TypeId) (i : TypeInfo) (z : Value) (size bytes : Nat) (ht : P.underlying t = some (.slice e)) (hi : P.info? e = some i) (hz : i.zero = some z)
    (hsize : i.size = size) (hby : i.bytes = bytes) (hzs : z.cells.size = size) (hsz : 0 < size)
    (v : Value) (n : Nat) (xs : List Value) (hs : a.eval s = v) (hown : w.ownsRow base e size v n xs)
    (B : Nat) (A : Option Addr) (m c : Nat) (news : List Value) (hx : a.eval x = .slice A m c) (hr : Reads w B size A m news) (h1 : ∀ u ∈ news, u.oneCell' = true)
    (h63 : n + m ≤ maxLen) (hbytes : (n + m) * bytes ≤ 140737488355328) (hbase : base ≤ w.heap.size)
    (h : ∀ v' w', w'.ownsRow base e size v' (n + m) (xs ++ news) → w.grownBy w' v.ownBlock → (v'.ownBlock = v.ownBlock ∨ v'.ownBlock = some w.heap.size) → (v' = .slice none 0 0 ↔ v = .slice none 0 0 ∧ m = 0) → K (a.put o.dst v') w') :
    if Region.wanted o (yielded ops a.tmps) = true then Oper.wp P o a w K Q else E := by
  have hw : Region.wanted o (yielded ops a.tmps) = true := by simp [Region.wanted, hgd]
  rw [if_pos hw]
  exact wp_append_any w s x t ho base e i z size bytes ht hi hz hsize hby hzs hsz v n xs hs hown B A m c news hx hr h1 h63 hbytes hbase h
theorem own_blk_ne {w : World} {base g : Nat} {e t : TypeId} {size n : Nat} {v : Value} {xs : List Value} {cs : Array Value} (h : w.ownsRow base e size v n xs) (hg : Blk w g t cs) (hne : e ≠ t) : v.ownBlock ≠ some g := by
  rcases h.2 with ⟨rfl, _⟩ | ⟨g', cap, cur, rfl, _, hh, _⟩
  · simp [Value.ownBlock]
  · intro he
    have : g' = g := by simpa [Value.ownBlock] using he
    subst this
    exact Blk.ne_ (t := e) hh hg hne rfl
def Plain (P : Program) (F : Nat) : Prop := ∀ (args : Array Value) (w : World), (callFunc F args).run P w = .ok (.enter F args) w
theorem plain_of {P : Program} {F : Nat} {fn : Func} (hf : P.funcs[F]? = some fn) (hname : (fn.name == "runtime.NumGoroutine") = false) (hb : fn.body.isNone = false) : Plain P F := by
  intro args w
  have h1 : fn.name ≠ "runtime.NumGoroutine" := by simpa using hname
  have h2 : fn.body ≠ none := by intro h; rw [h] at hb; cases hb
  simp [callFunc, hf, h1, h2]
theorem drewN_add (w : World) (a b : Nat) : (w.drewN a).drewN b = w.drewN (a + b) := World.drewN_drewN w a b
theorem eq_of_takes (xs ys : List Int) (n : Nat) (hx : xs.length = n) (hy : ys.length = n) (h : xs.take n = ys.take n) : xs = ys := by
  rw [List.take_of_length_le (by omega), List.take_of_length_le (by omega)] at h
  exact h
theorem any_eq_mem (v : Int) (xs : List Int) : xs.any (fun x => v == x) = decide (v ∈ xs) := by
  rw [Bool.eq_iff_iff, List.any_eq_true]
  simp
end Go.Proofs.YtbmkbnalembbjaaGreatDoor

namespace Go.Proofs
open Go.RowKit Go.Sort Go.Shelf
shelf_lay_g SlLaysM.n5 Slgm 5 at Tryz 92 as Tryz.sortI
end Go.Proofs
namespace Go.Proofs.YtbmkbnalembbjaaGreatDoor
open Go.RowKit Go.Sort
def sortL (l : List Int) : List Int := l.mergeSort fun x y => decide (x ≤ y)
theorem sortL_length (l : List Int) : (sortL l).length = l.length := List.length_mergeSort l
theorem sortL_mem {l : List Int} {x : Int} : x ∈ sortL l ↔ x ∈ l := (List.mergeSort_perm l _).mem_iff
theorem sortL_perm (l : List Int) : (sortL l).Perm l := List.mergeSort_perm l _
theorem sortL_sorted (l : List Int) : (sortL l).Pairwise (fun x y => x ≤ y) := by
  have h := List.pairwise_mergeSort (le := fun x y : Int => decide (x ≤ y)) (fun a b c h1 h2 => by simp only [decide_eq_true_eq] at *; omega) (fun a b => by simp only [Bool.or_eq_true, decide_eq_true_eq]; omega) l
  exact h.imp (by simp)
theorem sort_int (base : Nat) (A : Option Addr) (n c : Nat) (xs : List Int) (w : World) (hown : w.ownsRow base 3 1 (.slice A n c) n (xs.map (.int .i64))) (hn : n ≤ 1000000) :
    Calls Tryz.prog 92 #[.slice A n c] w fun e w' => e = .returned (.tuple #[]) ∧ w'.ownsRow base 3 1 (.slice A n c) n ((sortL xs).map (.int .i64)) ∧ w.grownBy w' (Value.slice A n c).ownBlock := by
  by_cases hnil : Value.slice A n c = .slice none 0 0
  · injection hnil with h1 h2 h3
    subst h1 h2 h3
    have hx : xs = [] := List.eq_nil_of_length_eq_zero (by have := hown.1; simpa using this)
    subst hx
    have H := AnyM.slices_Sort_int_none Tryz.sortI none 0 w
    refine Calls.mono H ?_
    rintro e w' ⟨rfl, rfl⟩
    exact ⟨rfl, by simpa [sortL] using hown, ⟨rfl, rfl, rfl, Nat.le_refl _, fun _ _ _ => rfl⟩⟩
  · obtain ⟨g, cap, hv, hb, hg, h1, h2, h3, hH⟩ := Lib.holds_of_ownsRow hown hnil
    injection hv with e1 _ e3
    subst e1 e3
    have H := AnyM.slices_Sort_int Tryz.sortI g 0 c xs w hH hg (by omega)
    rw [h3] at H
    refine Calls.mono H ?_
    rintro e w' ⟨rfl, q, os, rfl⟩
    refine ⟨rfl, ?_, grownBy_sortedI _⟩
    have := Lib.ownsRow_putRow (q := q) (k := n) hown (ys := sortL xs) (by rw [sortL_length, h3]) (Nat.le_refl _)
    rw [List.take_of_length_le (by rw [sortL_length]; omega)] at this
    exact own_grown (row := none) this ⟨rfl, rfl, rfl, by simp, fun k hk _ => heap_grow_old _ _ hk⟩ (fun _ _ h => by cases h)
end Go.Proofs.YtbmkbnalembbjaaGreatDoor

namespace Go.Proofs
open Go.RowKit Go.Sort Go.Shelf
shelf_lay_g SlLaysH.n10 Slgf 10 at Tryz 121 as Tryz.deleteI
shelf_lay_g SlLaysN.n43 Slgn 43 at Tryz 93 as Tryz.compactI
end Go.Proofs
namespace Go.Proofs.YtbmkbnalembbjaaGreatDoor
open Go.RowKit Go.Sort
theorem compact_sublist (l : List Int) : List.Sublist (Lib.compact l) l := by
  have h1 : List.Sublist (((List.range l.length).filter (Lib.keeps l.toArray)).map (l.toArray[·]!)) ((List.range l.length).map (l.toArray[·]!)) := List.Sublist.map _ List.filter_sublist
  have h2 := Lib.range_map_get l.toArray
  simp only [List.size_toArray] at h2
  rw [h2] at h1
  exact h1
theorem compact_mem {l : List Int} {x : Int} : x ∈ Lib.compact l ↔ x ∈ l := by
  refine ⟨fun h => (compact_sublist l).subset h, fun h => ?_⟩
  obtain ⟨j, hj, rfl⟩ := List.getElem_of_mem h
  clear h
  induction j with
  | zero =>
    refine List.mem_map.2 ⟨0, List.mem_filter.2 ⟨by simpa using hj, by simp [Lib.keeps]⟩, by simp [hj]⟩
  | succ j ih =>
    by_cases hk : Lib.keeps l.toArray (j + 1) = true
    · exact List.mem_map.2 ⟨j + 1, List.mem_filter.2 ⟨by simpa using hj, hk⟩, by simp [hj]⟩
    · have h1 := ih (by omega)
      have h2 : l[j + 1] = l[j] := by
        simp only [Lib.keeps, decide_eq_true_eq, not_or, ne_eq, Decidable.not_not] at hk
        have := hk.2
        simpa [hj, show j < l.length by omega] using this
      rw [h2]
      exact h1
set_option maxHeartbeats 400000 in
theorem negative_any (x : Int) (w : World) : Calls Tryz.prog 122 #[.int .i64 x] w fun e w' => e = .returned (.bool (decide (x < 0))) ∧ w' = w := by
  go_enter Tryz.func122, Tryz.ntmps122
  go_wp2
  go_ret
  exact ⟨rfl, rfl⟩
set_option maxHeartbeats 400000 in
theorem index_nil (F : Nat) (c : Nat) (w : World) : Calls Tryz.prog 120 #[.slice none 0 c, .func (.func F) #[] #[]] w fun e w' => e = .returned (.int .i64 (-1)) ∧ w' = w := by
  go_enter Tryz.func120, Tryz.ntmps120
  go_wp2
  go_loopw [8] (fun i wr => i = .int .i64 0 ∧ wr = w) (fun _ _ => 0)
  case atStart => exact ⟨rfl, rfl⟩
  case round =>
    obtain ⟨rfl, rfl⟩ := hrel
    go_wp2
    go_ret
    exact ⟨rfl, rfl⟩
set_option maxHeartbeats 400000 in
theorem delete_nil (c : Nat) (w : World) : Calls Tryz.prog 121 #[.slice none 0 c, .func (.func 122) #[] #[]] w fun e w' => e = .returned (.slice none 0 c) ∧ w' = w := by
  go_enter Tryz.func121, Tryz.ntmps121
  go_wp2_with (go_at_call 120; refine (index_nil _ _ _).mono ?_; rintro e w' ⟨rfl, rfl⟩)
  go_ret
  exact ⟨rfl, rfl⟩
theorem delete_neg (base : Nat) (A : Option Addr) (n c : Nat) (xs : List Int) (w : World) (hown : w.ownsRow base 3 1 (.slice A n c) n (xs.map (.int .i64))) (hn : n ≤ 1000000) :
    Calls Tryz.prog 121 #[.slice A n c, .func (.func 122) #[] #[]] w fun e w' => e = .returned (.slice A (xs.filter fun x => !decide (x < 0)).length c) ∧
      w'.ownsRow base 3 1 (.slice A (xs.filter fun x => !decide (x < 0)).length c) (xs.filter fun x => !decide (x < 0)).length ((xs.filter fun x => !decide (x < 0)).map (.int .i64)) ∧ w.grownBy w' (Value.slice A n c).ownBlock := by
  by_cases hnil : Value.slice A n c = .slice none 0 0
  · injection hnil with h1 h2 h3
    subst h1 h2 h3
    have hx : xs = [] := List.eq_nil_of_length_eq_zero (by have := hown.1; simpa using this)
    subst hx
    refine Calls.mono (delete_nil 0 w) ?_
    rintro e w' ⟨rfl, rfl⟩
    exact ⟨rfl, hown, ⟨rfl, rfl, rfl, Nat.le_refl _, fun _ _ _ => rfl⟩⟩
  · obtain ⟨g, cap, hv, hb, hg, h1, h2, h3, hH⟩ := Lib.holds_of_ownsRow hown hnil
    injection hv with e1 _ e3
    subst e1 e3
    have H := AnyE.slices_DeleteFunc Tryz.deleteI (Value.int .i64) (fun _ => rfl) (fun x => decide (x < 0)) 122 #[] (enters_of Tryz.func122 (by kernel_rfl) rfl) 0 Tryz.zeroValue3 g 0 c xs.toArray w
      (fun W x hb => by
        refine Calls.mono (negative_any x W) ?_
        rintro e w' ⟨rfl, rfl⟩
        exact ⟨rfl, 0, rfl⟩)
      (fun q os dk x hs => by
        refine Calls.mono (negative_any x _) ?_
        rintro e w' ⟨rfl, rfl⟩
        exact ⟨rfl, 0, rfl⟩) hH (by simp; omega) (by simp; omega)
    simp only [List.size_toArray] at H
    rw [h3] at H
    have hfl := List.length_filter_le (fun x => !decide (x < 0)) xs
    generalize (xs.filter fun x => !decide (x < 0)) = ys at *
    refine Calls.mono H ?_
    rintro e w' ⟨rfl, q, rfl⟩
    have := Lib.ownsRow_putRow (q := q) (k := ys.length) hown (ys := ys ++ List.replicate (n - ys.length) 0) (by simp; omega) (by omega)
    rw [List.take_append_of_le_length (Nat.le_refl _), List.take_length] at this
    exact ⟨rfl, this, grownBy_sortedI (os := #[]) _⟩
theorem compact_int (base : Nat) (A : Option Addr) (n c : Nat) (xs : List Int) (w : World) (hown : w.ownsRow base 3 1 (.slice A n c) n (xs.map (.int .i64))) (hn : n ≤ 1000000) :
    Calls Tryz.prog 93 #[.slice A n c] w fun e w' => e = .returned (.slice A (Lib.compact xs).length c) ∧
      w'.ownsRow base 3 1 (.slice A (Lib.compact xs).length c) (Lib.compact xs).length ((Lib.compact xs).map (.int .i64)) ∧ w.grownBy w' (Value.slice A n c).ownBlock := by
  by_cases hnil : Value.slice A n c = .slice none 0 0
  · injection hnil with h1 h2 h3
    subst h1 h2 h3
    have hx : xs = [] := List.eq_nil_of_length_eq_zero (by have := hown.1; simpa using this)
    subst hx
    refine Calls.mono (AnyG.slices_Compact_int_empty Tryz.compactI none 0 w) ?_
    rintro e w' ⟨rfl, rfl⟩
    exact ⟨rfl, hown, ⟨rfl, rfl, rfl, Nat.le_refl _, fun _ _ _ => rfl⟩⟩
  · obtain ⟨g, cap, hv, hb, hg, h1, h2, h3, hH⟩ := Lib.holds_of_ownsRow hown hnil
    injection hv with e1 _ e3
    subst e1 e3
    have H := AnyG.slices_Compact_int Tryz.compactI g 0 c xs w hH (by omega) (by omega)
    rw [h3] at H
    have hfl := (compact_sublist xs).length_le
    generalize Lib.compact xs = ys at *
    refine Calls.mono H ?_
    rintro e w' ⟨rfl, q, rfl⟩
    have := Lib.ownsRow_putRow (q := q) (k := ys.length) hown (ys := ys ++ List.replicate (n - ys.length) 0) (by simp; omega) (by omega)
    rw [List.take_append_of_le_length (Nat.le_refl _), List.take_length] at this
    exact ⟨rfl, this, grownBy_sortedI (os := #[]) _⟩
end Go.Proofs.YtbmkbnalembbjaaGreatDoor

namespace Go.Proofs.YtbmkbnalembbjaaGreatDoor
open Go.RowKit
set_option maxRecDepth 100000 in
set_option maxHeartbeats 1000000 in
theorem indexIntF_any (F : Nat) (cap : Value) (A : Option Addr) (n c B : Nat) (l : List Int) (p : Int → Bool) (w : World) (hr : Reads w B 1 A n (l.map (.int .i64))) (hB : B ≤ w.heap.size) (hn : n ≤ 1000000000000000000) (hP : Plain Tryz.prog F)
    (HC : ∀ (w' : World) (x : Int), Below w.heap.size w w' → x ∈ l → Calls Tryz.prog F #[.int .i64 x, cap] w' fun e w'' => e = .returned (.bool (p x)) ∧ Below w'.heap.size w' w'') :
    Calls Tryz.prog 120 #[.slice A n c, .func (.func F) #[] #[cap]] w fun e w' => e = .returned (.int .i64 (ixOf p l)) ∧ Below w.heap.size w w' := by
  have hll : l.length = n := by have := hr.1; simpa using this
  have HL := Lib.hid hll
  have HC := Lib.hid HC
  have hcf := fun (x : Value) (w : World) => hP #[x, cap] w
  clear hll hP
  go_enter Tryz.func120, Tryz.ntmps120
  go_wp2
  go_loopw [5, 8] (fun _ i wr => ∃ j : Nat, j ≤ n ∧ i = .int .i64 j ∧ Below w.heap.size w wr ∧ Hid (∀ x ∈ l.take j, p x = false)) (fun _ i _ => n - (intOf i).toNat)
  case atStart => exact ⟨0, Nat.zero_le _, rfl, Below.refl _ _, by intro x hx; simp at hx⟩
  case round =>
    obtain ⟨j, hj, rfl, hb, HD⟩ := hrel
    by_cases hlt : j < n
    · obtain ⟨ad, s, rfl, had, hs, c0⟩ := (hr.below (hb.mono hB)).num hlt
      have HS := Lib.hid hs
      have HQ := Lib.hid (HC.out wr s hb (List.mem_of_getElem? hs))
      clear hs
      cases hp : p s
      · have HF := Lib.hid hp
        clear hp
        go_wp2_with fail
        refine HQ.out.mono ?_
        rw [HF.out]
        rintro e w1 ⟨rfl, hb1⟩
        go_wp2
        go_roundw
        case rel => exact ⟨j + 1, by omega, by go_num, hb.trans (hb1.mono hb.size), fun x hx => by
          rcases take_succ_mem HS.out x hx with h | rfl
          · exact HD.out x h
          · exact HF.out⟩
        case measure => simp [intOf]; omega
      · have HF := Lib.hid hp
        clear hp
        go_wp2_with fail
        refine HQ.out.mono ?_
        rw [HF.out]
        rintro e w1 ⟨rfl, hb1⟩
        go_wp2
        go_ret
        exact ⟨ret_int (ixOf_some HS.out HF.out HD.out).symm, hb.trans (hb1.mono hb.size)⟩
    · go_wp2
      go_ret
      exact ⟨ret_int (ixOf_none (by have := HD.out; rwa [List.take_of_length_le (by rw [HL.out]; omega)] at this)).symm, hb⟩
theorem containsIntF_any (F : Nat) (cap : Value) (A : Option Addr) (n c B : Nat) (l : List Int) (p : Int → Bool) (w : World) (hr : Reads w B 1 A n (l.map (.int .i64))) (hB : B ≤ w.heap.size) (hn : n ≤ 1000000000000000000) (hP : Plain Tryz.prog F)
    (HC : ∀ (w' : World) (x : Int), Below w.heap.size w w' → x ∈ l → Calls Tryz.prog F #[.int .i64 x, cap] w' fun e w'' => e = .returned (.bool (p x)) ∧ Below w'.heap.size w' w'') :
    Calls Tryz.prog 85 #[.slice A n c, .func (.func F) #[] #[cap]] w fun e w' => e = .returned (.bool (l.any p)) ∧ Below w.heap.size w w' := by
  have H := Lib.hid (indexIntF_any F cap A n c B l p w hr hB hn hP HC)
  have hd := ixOf_nonneg p l
  rw [← hd]
  generalize ixOf p l = i at *
  clear HC hd
  go_enter Tryz.func85, Tryz.ntmps85
  go_wp2_with fail
  refine H.out.mono ?_
  rintro e w1 ⟨rfl, hb⟩
  go_wp2
  go_ret
  exact ⟨rfl, hb⟩
end Go.Proofs.YtbmkbnalembbjaaGreatDoor

namespace Go.Proofs.YtbmkbnalembbjaaGreatDoor
open Go.RowKit
theorem size_int : (Tryz.prog.info? 3).map (·.size) = some 1 := by kernel_rfl
theorem info_int : (Tryz.prog.info? 3).map (fun i => (i.zero, i.size, i.bytes)) = some (some (.int .i64 0), 1, 8) := by kernel_rfl
set_option maxHeartbeats 400000 in
theorem clone_int (A : Option Addr) (n c B : Nat) (xs : List Value) (w : World) (hr : Reads w B 1 A n xs) (hB : B ≤ w.heap.size) (h1 : ∀ u ∈ xs, u.oneCell' = true) (hn : n * 8 ≤ 140737488355328) :
    Calls Tryz.prog 16 #[.slice A n c] w fun e w' => ∃ A' c', e = .returned (.slice A' n c') ∧ w'.ownsRow w.heap.size 3 1 (.slice A' n c') n xs ∧ Below w.heap.size w w' := by
  obtain ⟨i0, hi, hz0, hz1, hz2⟩ := info_parts info_int
  rcases A with _ | ad
  · have hm : n = 0 := by
      rcases Nat.eq_zero_or_pos n with h0 | h0
      · exact h0
      · obtain ⟨ad, h, _⟩ := hr.2 h0
        cases h
    subst hm
    have hx : xs = [] := List.eq_nil_of_length_eq_zero (by simpa using hr.1)
    subst hx
    have hnil := fun (w : World) => Lib.run_eql_slice_nil (P := Tryz.prog) w 23 3 none 0 c 0 0 Tryz.underlying23
    go_enter Tryz.func16, Tryz.ntmps16
    go_wp2
    go_ret
    exact ⟨none, 0, rfl, World.ownsRow_nil _ _ _ _, Below.refl _ _⟩
  · have hnil := fun (w : World) => Lib.run_eql_slice_nil (P := Tryz.prog) w 23 3 (some ad) n c 0 0 Tryz.underlying23
    have hmade := World.ownsRow_made (e := 3) (size := 1) w #[] 0 (Nat.le_refl w.heap.size) (Nat.zero_le _) rfl
    go_enter Tryz.func16, Tryz.ntmps16
    go_wp2_with (at_builtin; refine wpList_append_any _ rfl (.tmp 5) (.tmp 6) 23 rfl w.heap.size 3 i0 (.int .i64 0) 1 8 Tryz.underlying23 hi hz0 hz1 hz2 rfl (by decide) (.slice (some ⟨w.heap.size, 0, none⟩) 0 0) 0 [] rfl hmade B (some ad) n c xs rfl (hr.alloc hB _) h1 (by simp [maxLen]; omega) (by simpa using hn) (by simp) ?_; rintro v' w1 hown hgr hbl -; obtain ⟨A', c', rfl⟩ := own_slice hown)
    go_ret
    exact ⟨A', c', rfl, by simpa using hown, ((Below.refl _ _).alloc (Nat.le_refl _) _).grown hgr (by simp) (by simp [Value.ownBlock])⟩
theorem ints_one (l : List Int) : ∀ u ∈ l.map (Value.int .i64), u.oneCell' = true := by
  intro u hu
  obtain ⟨x, _, rfl⟩ := List.mem_map.1 hu
  rfl
end Go.Proofs.YtbmkbnalembbjaaGreatDoor

namespace Go.Proofs.YtbmkbnalembbjaaGreatDoor
open Go.RowKit
def inR (v n : Int) : Bool := decide (-1 ≤ v) && decide (v < n)
def rootE (r : List Int) (n : Int) : Int := if n < 0 ∨ 256 < n then 4 else if 32 < r.length then 2 else if r.any (fun v => !inR v n) = true then 4 else 0
theorem rootE_ok {r : List Int} {n : Int} (h : rootE r n = 0) : 0 ≤ n ∧ n ≤ 256 ∧ r.length ≤ 32 ∧ ∀ v ∈ r, -1 ≤ v ∧ v < n := by
  unfold rootE at h
  split at h
  · cases h
  · split at h
    · cases h
    · split at h
      · cases h
      · rename_i h1 h2 h3
        refine ⟨by omega, by omega, by omega, fun v hv => ?_⟩
        have h4 : ¬ (!inR v n) = true := fun h5 => h3 (List.any_eq_true.2 ⟨v, hv, h5⟩)
        simp only [inR, Bool.not_eq_true', Bool.not_eq_false, Bool.and_eq_true, decide_eq_true_eq] at h4
        exact h4
theorem rootE_of {r : List Int} {n : Int} (h0 : 0 ≤ n) (h1 : n ≤ 256) (h2 : r.length ≤ 32) (h3 : ∀ v ∈ r, -1 ≤ v ∧ v < n) : rootE r n = 0 := by
  unfold rootE
  rw [if_neg (by omega), if_neg (by omega), if_neg]
  intro h
  obtain ⟨v, hv, h4⟩ := List.any_eq_true.1 h
  have := h3 v hv
  simp only [inR, Bool.not_eq_true', Bool.and_eq_false_iff, decide_eq_false_iff_not] at h4
  omega
set_option maxHeartbeats 400000 in
theorem within_any (v n : Int) (w : World) : Calls Tryz.prog 87 #[.int .i64 v, .int .i64 n] w fun e w' => e = .returned (.bool (inR v n)) ∧ w' = w := by
  unfold inR
  by_cases h : -1 ≤ v
  · rw [decide_eq_true h, Bool.true_and]
    have h1 : decide (-1 ≤ v) = true := decide_eq_true h
    go_enter Tryz.func87, Tryz.ntmps87
    go_wp2
    go_ret
    exact ⟨rfl, rfl⟩
  · rw [decide_eq_false h, Bool.false_and]
    have h1 : decide (-1 ≤ v) = false := decide_eq_false h
    go_enter Tryz.func87, Tryz.ntmps87
    go_wp2
    go_ret
    exact ⟨rfl, rfl⟩
set_option maxHeartbeats 400000 in
theorem rootOut_any (v n : Int) (g : Nat) (w : World) (hc : w.cell? ⟨g, 0, none⟩ = some (.int .i64 n)) :
    Calls Tryz.prog 86 #[.int .i64 v, .pointer (some ⟨g, 0, none⟩)] w fun e w' => e = .returned (.bool (!inR v n)) ∧ Below w.heap.size w w' := by
  have H := Lib.hid (fun w => within_any v n w)
  generalize inR v n = b at *
  go_enter Tryz.func86, Tryz.ntmps86
  go_wp2_with (go_at_call 87; refine (H.out _).mono ?_; rintro e w' ⟨rfl, rfl⟩)
  go_ret
  exact ⟨rfl, Below.refl _ _⟩
set_option maxRecDepth 100000 in
set_option maxHeartbeats 1000000 in
theorem rootCheck_any (A : Option Addr) (n c : Nat) (r : List Int) (N : Int) (w : World) (hr : Reads w w.heap.size 1 A n (r.map (.int .i64))) (hn : n ≤ 9223372036854775807) :
    Calls Tryz.prog 54 #[.slice A n c, .int .i64 N] w fun e w' => e = .returned (.int .i64 (rootE r N)) ∧ Below w.heap.size w w' := by
  have hrl : r.length = n := by have := hr.1; simpa using this
  have hb0 := below_new w (.cells #[.int .i64 N] 3)
  have B0 := Blk.new w 3 #[.int .i64 N]
  unfold rootE
  rw [hrl]
  by_cases h1 : N < 0
  · rw [if_pos (.inl h1)]
    have g1 : decide (N < 0) = true := decide_eq_true h1
    go_enter Tryz.func54, Tryz.ntmps54
    go_wp2
    go_ret
    exact ⟨rfl, hb0⟩
  · have g1 : decide (N < 0) = false := decide_eq_false h1
    obtain ⟨K, rfl⟩ : ∃ K : Nat, N = K := ⟨N.toNat, by omega⟩
    by_cases h2 : 256 < K
    · rw [if_pos (.inr (by omega))]
      have g2 : decide (256 < K) = true := decide_eq_true h2
      go_enter Tryz.func54, Tryz.ntmps54
      go_wp2
      go_ret
      exact ⟨rfl, hb0⟩
    · rw [if_neg (by omega)]
      have g2 : decide (256 < K) = false := decide_eq_false h2
      by_cases h3 : 32 < n
      · rw [if_pos h3]
        have g3 : decide (32 < n) = true := decide_eq_true h3
        go_enter Tryz.func54, Tryz.ntmps54
        go_wp2
        go_ret
        exact ⟨rfl, hb0⟩
      · rw [if_neg h3]
        have g3 : decide (32 < n) = false := decide_eq_false h3
        have HC := containsIntF_any 86 (.pointer (some ⟨w.heap.size, 0, none⟩)) A n c _ r (fun v => !inR v K) _ (hr.below hb0) hb0.size (by omega) (plain_of (fn := Tryz.f86) Tryz.func86 (by kernel_rfl) (by kernel_rfl)) (fun w' x hb' _ =>
          rootOut_any x K w.heap.size w' ((B0.below hb' B0.lt).cell 0))
        generalize r.any (fun v => !inR v K) = b at *
        have HC := Lib.hid HC
        clear hrl hr
        cases b
        · rw [if_neg (by decide)]
          go_enter Tryz.func54, Tryz.ntmps54
          go_wp2_with fail
          refine HC.out.mono ?_
          rintro e w1 ⟨rfl, hb1⟩
          go_wp2
          go_ret
          exact ⟨rfl, below_step hb0 hb1⟩
        · rw [if_pos rfl]
          go_enter Tryz.func54, Tryz.ntmps54
          go_wp2_with fail
          refine HC.out.mono ?_
          rintro e w1 ⟨rfl, hb1⟩
          go_wp2
          go_ret
          exact ⟨rfl, below_step hb0 hb1⟩
def namedL (r : List Int) : List Int := Lib.compact (sortL (r.filter fun x => !decide (x < 0)))
theorem namedL_mem {r : List Int} {x : Int} : x ∈ namedL r ↔ x ∈ r ∧ 0 ≤ x := by
  unfold namedL
  rw [compact_mem, sortL_mem, List.mem_filter]
  simp only [Bool.not_eq_true', decide_eq_false_iff_not, Int.not_lt]
theorem namedL_length (r : List Int) : (namedL r).length ≤ r.length := by
  unfold namedL
  have h1 := (compact_sublist (sortL (r.filter fun x => !decide (x < 0)))).length_le
  rw [sortL_length] at h1
  have h2 := List.length_filter_le (fun x => !decide (x < 0)) r
  omega
theorem below_grown_own {w w' : World} {base : Nat} {e : TypeId} {size n : Nat} {v : Value} {xs : List Value} {B : Nat} {w0 : World} (hb : Below B w0 w) (h : w.ownsRow base e size v n xs) (hg : w.grownBy w' v.ownBlock) (hB : B ≤ base) (hs : B ≤ w.heap.size) : Below B w0 w' :=
  hb.grown hg hs (fun g hg' => by have := (h.lt g hg').1; omega)
set_option maxHeartbeats 1000000 in
theorem named_ok (A : Option Addr) (n c : Nat) (r : List Int) (N : Int) (w : World) (hr : Reads w w.heap.size 1 A n (r.map (.int .i64))) (hE : rootE r N = 0) :
    Calls Tryz.prog 90 #[.slice A n c, .int .i64 N] w fun e w' => ∃ A' c', e = .returned (.tuple #[.slice A' (namedL r).length c', .int .i64 0]) ∧
      w'.ownsRow w.heap.size 3 1 (.slice A' (namedL r).length c') (namedL r).length ((namedL r).map (.int .i64)) ∧ Below w.heap.size w w' := by
  have hrl : r.length = n := by have := hr.1; simpa using this
  have hn : n ≤ 32 := by have := (rootE_ok hE).2.2.1; omega
  have H := rootCheck_any A n c r N w hr (by omega)
  rw [hE] at H
  have H := Lib.hid H
  have hf := List.length_filter_le (fun x => !decide (x < 0)) r
  unfold namedL
  generalize hF : (r.filter fun x => !decide (x < 0)) = F at *
  have HF := Lib.hid hF
  have hcl : (Lib.compact (sortL F)).length ≤ F.length := by have := (compact_sublist (sortL F)).length_le; rw [sortL_length] at this; exact this
  have hsl := sortL_length F
  clear hF hE
  go_enter Tryz.func90, Tryz.ntmps90
  go_wp2_with fail
  refine H.out.mono ?_
  rintro e w1 ⟨rfl, hb1⟩
  go_wp2_with fail
  refine (clone_int A n c _ (r.map (.int .i64)) _ (hr.below hb1) hb1.size (ints_one r) (by omega)).mono ?_
  rintro e w2 ⟨A2, c2, rfl, hown2, hb2⟩
  have hb02 := below_step hb1 hb2
  go_wp2_with fail
  refine (delete_neg _ A2 n c2 r _ hown2 (by omega)).mono ?_
  rw [HF.out]
  rintro e w3 ⟨rfl, hown3, hg3⟩
  have hb03 := below_grown_own hb02 hown2 hg3 hb1.size hb02.size
  go_wp2_with fail
  refine (sort_int _ A2 F.length c2 F _ hown3 (by omega)).mono ?_
  rintro e w4 ⟨rfl, hown4, hg4⟩
  have hb04 := below_grown_own hb03 hown3 hg4 hb1.size hb03.size
  go_wp2_with fail
  rw [← hsl]
  rw [← hsl] at hown4
  refine (compact_int _ A2 (sortL F).length c2 (sortL F) _ hown4 (by omega)).mono ?_
  rintro e w5 ⟨rfl, hown5, hg5⟩
  have hb05 := below_grown_own hb04 hown4 hg5 hb1.size hb04.size
  go_wp2
  go_ret2
  exact ⟨_, _, rfl, own_mono hown5 hb1.size, hb05⟩
def setE (r : List Int) (n slot v : Int) : Int := if rootE r n ≠ 0 then rootE r n else if slot < 0 ∨ (r.length : Int) ≤ slot then 5 else if inR v n = true then 0 else 4
end Go.Proofs.YtbmkbnalembbjaaGreatDoor

namespace Go.Proofs.YtbmkbnalembbjaaGreatDoor
open Go.RowKit
variable {P : Program}
theorem run_firstK (w : World) (k n : Nat) (ad : Addr) (a c : Nat) (cs : List Value) (hn : cs.length = n * k) (hsrc : ∀ j v, cs[j]? = some v → w.cell? (ad.add j) = some v) :
    (Builtin.firstCells k n (.slice (some ad) a c)).run P w = .ok cs.toArray w := by
  have := run_loadCells_list (P := P) w ad cs hsrc
  simp [Builtin.firstCells, ← hn, this]
theorem run_copyK (w : World) (dT sT ty elem : TypeId) (k g off dLen dCap : Nat) (ad : Addr) (sLen sCap m : Nat) (cur : List Value) (t : TypeId) (cs : List Value)
    (hu : P.underlying dT = some (.slice elem)) (hs : (P.info? elem).map (·.size) = some k) (hg : w.heap[g]? = some (.cells cur.toArray t (0, 0))) (hm : Nat.min sLen dLen = m) (hn : cs.length = m * k)
    (hsrc : ∀ j v, cs[j]? = some v → w.cell? (ad.add j) = some v) (hfit : off + cs.length ≤ cur.length) (h1 : ∀ v ∈ cs, v.oneCell' = true) :
    (Builtin.copy_ #[dT, sT] ty #[.slice (some ⟨g, off, none⟩) dLen dCap, .slice (some ad) sLen sCap]).run P w = .ok (goInt m) (w.setRow g (splice cur off cs).toArray) := by
  have hl := run_loadCells_list (P := P) w ad cs hsrc
  have hst := run_storeCells_at P g off t cs 0 cur.toArray w hg (by simpa using hfit) h1
  cases hq : P.info? elem with
  | none => simp [hq] at hs
  | some i =>
    have hi : i.size = k := by simpa [hq] using hs
    simp [Builtin.copy_, run_underlying hu, Builtin.lenOf, Builtin.firstCells, sizeOf, typeInfo, hq, hi, hm, ← hn, hl, hst, splice]
theorem run_appendK (w : World) (t ty elem : TypeId) (k g sLen sCap : Nat) (ad : Addr) (m c : Nat) (cur : List Value) (tt : TypeId) (cs : List Value)
    (hu : P.underlying t = some (.slice elem)) (hs : (P.info? elem).map (·.size) = some k) (hg : w.heap[g]? = some (.cells cur.toArray tt (0, 0))) (hn : cs.length = m * k)
    (hsrc : ∀ j v, cs[j]? = some v → w.cell? (ad.add j) = some v) (hroom : sLen + m ≤ sCap) (hfit : sLen * k + cs.length ≤ cur.length) (h1 : ∀ v ∈ cs, v.oneCell' = true) :
    (Builtin.append_ #[t, t] ty #[.slice (some ⟨g, 0, none⟩) sLen sCap, .slice (some ad) m c]).run P w = .ok (.slice (some ⟨g, 0, none⟩) (sLen + m) sCap) (w.setRow g (splice cur (sLen * k) cs).toArray) := by
  have hl := run_loadCells_list (P := P) w ad cs hsrc
  have hst := run_storeCells_at P g (sLen * k) tt cs 0 cur.toArray w hg (by simpa using hfit) h1
  cases hq : P.info? elem with
  | none => simp [hq] at hs
  | some i =>
    have hi : i.size = k := by simpa [hq] using hs
    simp [Builtin.append_, run_underlying hu, Builtin.lenOf, Builtin.firstCells, sizeOf, typeInfo, hq, hi, hroom, ← hn, hl, hst, splice, Addr.add_lit]
theorem run_clearK (w : World) (t ty elem : TypeId) (_ g off n c : Nat) (cur : List Value) (tt : TypeId) (z : Value) (cs : List Value)
    (hu : P.underlying t = some (.slice elem)) (hz : (P.info? elem).map (·.zero) = some (some z)) (hcs : (Builtin.zeroCells z.cells n).toList = cs) (hg : w.heap[g]? = some (.cells cur.toArray tt (0, 0))) (h0 : 0 < n)
    (hfit : off + cs.length ≤ cur.length) (h1 : ∀ v ∈ cs, v.oneCell' = true) :
    (Builtin.clear_ #[t] ty #[.slice (some ⟨g, off, none⟩) n c]).run P w = .ok (.tuple #[]) (w.setRow g (splice cur off cs).toArray) := by
  have hst := run_storeCells_at P g off tt cs 0 cur.toArray w hg (by simpa using hfit) h1
  cases hq : P.info? elem with
  | none => simp [hq] at hz
  | some i =>
    have hi : i.zero = some z := by simpa [hq] using hz
    obtain ⟨m, rfl⟩ : ∃ m, n = m + 1 := ⟨n - 1, by omega⟩
    simp [Builtin.clear_, run_underlying hu, zeroValue, typeInfo, hq, hi, hcs, hst, splice]
theorem wpList_copy_run (w : World) {ops : Array Oper} {rest : List Oper} {o : Oper} {a : Act} {Q : Exit → Act → World → Prop} (hgd : o.guard = none) (d s : Operand) (t t' : TypeId)
    (ho : o.op = .call { callee := .builtin .copy, args := #[d, s], argTypes := #[t, t'] }) (v u : Value) (hd : a.eval d = v) (hs : a.eval s = u) {v' : Value} {w' : World}
    (hr : (Builtin.copy_ #[t, t'] o.type #[v, u]).run P w = .ok v' w') (h : wpList P ops Q rest (a.put o.dst v') w') : wpList P ops Q (o :: rest) a w :=
  wpList_plain hgd fun K hK => by
    unfold Oper.wp execOp
    simp only [ho, resolve, invoke, builtin, Sem.run_bind, Sem.run_pure, Result.andThen_ok, List.map_toArray, List.map_cons, List.map_nil, hd, hs, hr]
    exact hK _ _ h
theorem step_copy_run {ops : Array Oper} {o : Oper} {a : Act} {w : World} {K : Act → World → Prop} {Q : Exit → Act → World → Prop} {E : Prop}
    (hg : o.guard = none) (d x : Operand) (dT sT : TypeId) (hop : o.op = Op.call { callee := Callee.builtin Builtin.copy, args := #[d, x], argTypes := #[dT, sT] })
    (v u : Value) (hd : a.eval d = v) (hx : a.eval x = u) {v' : Value} {w' : World} (hr : (Builtin.copy_ #[dT, sT] o.type #[v, u]).run P w = .ok v' w') (hK : K (a.put o.dst v') w') :
    if Region.wanted o (yielded ops a.tmps) = true then Oper.wp P o a w K Q else E := by
  have hw : Region.wanted o (yielded ops a.tmps) = true := by simp [Region.wanted, hg]
  rw [if_pos hw]
  unfold Oper.wp
  simp [execOp, hop, resolve, invoke, builtin, hd, hx, hr, Result.andThen]
  exact hK
theorem step_append_run {ops : Array Oper} {o : Oper} {a : Act} {w : World} {K : Act → World → Prop} {Q : Exit → Act → World → Prop} {E : Prop}
    (hg : o.guard = none) (d x : Operand) (dT sT : TypeId) (hop : o.op = Op.call { callee := Callee.builtin Builtin.append, args := #[d, x], argTypes := #[dT, sT] })
    (v u : Value) (hd : a.eval d = v) (hx : a.eval x = u) {v' : Value} {w' : World} (hr : (Builtin.append_ #[dT, sT] o.type #[v, u]).run P w = .ok v' w') (hK : K (a.put o.dst v') w') :
    if Region.wanted o (yielded ops a.tmps) = true then Oper.wp P o a w K Q else E := by
  have hw : Region.wanted o (yielded ops a.tmps) = true := by simp [Region.wanted, hg]
  rw [if_pos hw]
  unfold Oper.wp
  simp [execOp, hop, resolve, invoke, builtin, hd, hx, hr, Result.andThen]
  exact hK
theorem wpList_clear_run (w : World) {ops : Array Oper} {rest : List Oper} {o : Oper} {a : Act} {Q : Exit → Act → World → Prop} (hgd : o.guard = none) (d : Operand) (t : TypeId)
    (ho : o.op = .call { callee := .builtin .clear, args := #[d], argTypes := #[t] }) (v : Value) (hd : a.eval d = v) {v' : Value} {w' : World}
    (hr : (Builtin.clear_ #[t] o.type #[v]).run P w = .ok v' w') (h : wpList P ops Q rest (a.put o.dst v') w') : wpList P ops Q (o :: rest) a w :=
  wpList_plain hgd fun K hK => by
    unfold Oper.wp execOp
    simp only [ho, resolve, invoke, builtin, Sem.run_bind, Sem.run_pure, Result.andThen_ok, List.map_toArray, List.map_cons, List.map_nil, hd, hr]
    exact hK _ _ h
end Go.Proofs.YtbmkbnalembbjaaGreatDoor

namespace Go.Proofs.YtbmkbnalembbjaaGreatDoor
open Go.RowKit
theorem grownBy_setRow {w : World} {g : Nat} {cs : Array Value} : w.grownBy (w.setRow g cs) (some g) := by
  refine ⟨rfl, rfl, rfl, by simp [World.setRow], fun b hb hne => ?_⟩
  exact setRow_other _ _ _ _ (fun e => hne (by rw [e]))
section
variable {P : Program} (w : World)
theorem run_append_fit (base : Nat) (t ty e : TypeId) (i : TypeInfo) (size : Nat) (ht : P.underlying t = some (.slice e)) (hi : P.info? e = some i) (hsize : i.size = size)
    (A : Option Addr) (n cap : Nat) (xs : List Value) (hown : w.ownsRow base e size (.slice A n cap) n xs) (B : Nat) (As : Option Addr) (m c : Nat) (news : List Value) (hr : Reads w B size As m news) (h1 : ∀ u ∈ news, u.oneCell' = true) (_ : 0 < size)
    (hfit : n + m ≤ cap) :
    ∃ w', (Builtin.append_ #[t, t] ty #[.slice A n cap, .slice As m c]).run P w = .ok (.slice A (n + m) cap) w' ∧ w'.ownsRow base e size (.slice A (n + m) cap) (n + m) (xs ++ news) ∧ w.grownBy w' (Value.slice A n cap).ownBlock := by
  have hnil : m = 0 → news = [] := fun h => List.eq_nil_of_length_eq_zero (by rw [hr.1, h]; simp)
  rcases As with _ | ad
  · have hm : m = 0 := by
      rcases Nat.eq_zero_or_pos m with h0 | h0
      · exact h0
      · obtain ⟨ad, h, _⟩ := hr.2 h0
        cases h
    subst hm
    rw [hnil rfl]
    exact ⟨w, run_append_of_nil w base t ty e i size ht hi _ n xs hown c, by simpa using hown, World.grownBy.refl w _⟩
  · have hcells : ∀ j u, news[j]? = some u → w.cell? (ad.add j) = some u := by
      intro j u hu
      rcases Nat.eq_zero_or_pos m with h0 | h0
      · rw [hnil h0] at hu; simp at hu
      · obtain ⟨ad', h, _, hc⟩ := hr.2 h0
        injection h with h
        subst h
        exact hc j u hu
    rcases hown.2 with ⟨hv, hx⟩ | ⟨g, cap', cur, hv, -⟩
    · injection hv with e1 e2 e3
      subst e1 e2 e3
      have hm : m = 0 := by omega
      subst hm
      rw [hnil rfl]
      have hl0 := run_loadCells_list (P := P) w ad [] (by simp)
      simp only [List.length_nil] at hl0
      exact ⟨w, by simp [hl0, Builtin.append_, run_underlying ht, sizeOf, typeInfo, hi, Builtin.lenOf, Builtin.firstCells], by simpa using hown, World.grownBy.refl w _⟩
    · injection hv with e1 e2 e3
      subst e1
      obtain ⟨cur, hb, hg, hc, hm, hs, htk⟩ := own_open hown
      have hlen : news.length = m * size := hr.1
      have hmul : (n + m) * size ≤ cap * size := Nat.mul_le_mul_right _ hfit
      have hsum : (n + m) * size = n * size + m * size := Nat.add_mul _ _ _
      have hrun := run_appendK (P := P) w t ty e size g n cap ad m c cur e news ht (by rw [hi]; simp [hsize]) hg hlen hcells hfit (by omega) h1
      refine ⟨_, hrun, ?_, grownBy_setRow⟩
      have hl2 : (splice cur (n * size) news).length = cap * size := by unfold splice; simp; omega
      have := own_close (w := w.setRow g (splice cur (n * size) news).toArray) (base := base) (e := e) (size := size) (n := n + m) (c := cap) (g := g) (splice cur (n * size) news) hb (setRow_heap w g _ _ _ _ hg) hfit hm hl2
      have h3 : (splice cur (n * size) news).take ((n + m) * size) = xs ++ news := by
        rw [hsum, take_splice _ _ _ _ (by omega) (by omega)]
        unfold splice
        rw [List.take_take, Nat.min_eq_left (by omega), htk, List.drop_of_length_le (by rw [List.length_take]; omega), List.append_nil]
      rw [h3] at this
      exact this
end
end Go.Proofs.YtbmkbnalembbjaaGreatDoor
