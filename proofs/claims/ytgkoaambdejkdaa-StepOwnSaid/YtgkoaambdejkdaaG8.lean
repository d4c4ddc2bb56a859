/-
  Texts joined: OwnT OwnBase SeqInt DeleteOne RowK.
-/
import Derived.Test.YtgkoaambdejkdaaRows
import Derived.RangeFuncNested
import Derived.RangeFuncBound
import Derived.RangeFuncCalls
import Derived.RangeFuncLeaves
import Derived.RangeFuncBox
import Derived.Shelf.Abstract
import Derived.WalkKit
import Derived.OwnWalkIn
import Derived.TacticsInMore
import Derived.LoopNIn
import Derived.LoopIn
import Derived.Maps.AppendAt
import Derived.Shelf.SlicesG.Delete
import Derived.Ground.SlgnProg
import Derived.Test.YtgkoaambdejkdaaG0
import Derived.Test.YtgkoaambdejkdaaG1
import Derived.Test.YtgkoaambdejkdaaG2
namespace Go.Proofs.Ytgkoaambdejkdaa
open Go.RowKit
def OwnT (w : World) (base : Nat) (e : TypeId) (size : Nat) (ok : Nat → Value → Prop) (v : Value) (n : Nat) (xs : List Value) : Prop :=
  w.ownsRow base e size v n xs ∧ ∀ (g : Nat) (cur : Array Value), v.ownBlock = some g → w.heap[g]? = some (.cells cur e (0, 0)) → ∀ (i : Nat) (u : Value), cur[i]? = some u → ok (i % size) u
def isNum (kd : IntKind) (_ : Nat) (u : Value) : Prop := ∃ x, u = .int kd x ∧ (Lit.int kd x).wf = true
section
variable {w w' : World} {base base' n : Nat} {e : TypeId} {size : Nat} {ok : Nat → Value → Prop} {v : Value} {xs : List Value}
theorem OwnT.own (h : OwnT w base e size ok v n xs) : w.ownsRow base e size v n xs := h.1
theorem OwnT.nil (w : World) (base : Nat) (e : TypeId) (size : Nat) (ok : Nat → Value → Prop) : OwnT w base e size ok (.slice none 0 0) 0 [] :=
  ⟨World.ownsRow_nil _ _ _ _, fun g cur h => by simp [Value.ownBlock] at h⟩
theorem OwnT.mono (h : OwnT w base' e size ok v n xs) (hb : base ≤ base') : OwnT w base e size ok v n xs := ⟨own_mono h.1 hb, h.2⟩
theorem OwnT.below (h : OwnT w base e size ok v n xs) (hb : Below w.heap.size w w') : OwnT w' base e size ok v n xs :=
  ⟨own_below h.1 hb, fun g cur hg hc => h.2 g cur hg (by rw [← hb.block g (h.1.lt g hg).2]; exact hc)⟩
theorem OwnT.kept {row : Option Nat} (h : OwnT w base e size ok v n xs) (hg : w.grownBy w' row) (hne : v.ownBlock = none ∨ v.ownBlock ≠ row) : OwnT w' base e size ok v n xs :=
  ⟨h.1.kept hg hne, fun g cur hv hc => h.2 g cur hv (by
    rw [← hg.block g (h.1.lt g hv).2 (fun e => by
      rcases hne with h0 | h0
      · rw [h0] at hv; cases hv
      · exact h0 (by rw [hv, e]))]
    exact hc)⟩
theorem OwnT.alloc (h : OwnT w base e size ok v n xs) (o : Obj) : OwnT (w.alloc o) base e size ok v n xs :=
  h.kept (World.grownBy_alloc w o none) (by cases hv : v.ownBlock <;> simp)
theorem OwnT.drewN (h : OwnT w base e size ok v n xs) (q : Nat) : OwnT (w.drewN q) base e size ok v n xs := h
theorem OwnT.open {g c : Nat} (h : OwnT w base e size ok (.slice (some ⟨g, 0, none⟩) n c) n xs) :
    ∃ cur : List Value, base ≤ g ∧ w.heap[g]? = some (.cells cur.toArray e (0, 0)) ∧ n ≤ c ∧ c ≤ maxLen ∧ cur.length = c * size ∧ cur.take (n * size) = xs ∧ ∀ (i : Nat) (u : Value), cur[i]? = some u → ok (i % size) u := by
  obtain ⟨cur, h1, h2, h3, h4, h5, h6⟩ := own_open h.1
  exact ⟨cur, h1, h2, h3, h4, h5, h6, fun i u hu => h.2 g cur.toArray rfl h2 i u (by simpa using hu)⟩
theorem OwnT.close {g c : Nat} (cur : List Value) (h1 : base ≤ g) (h2 : w.heap[g]? = some (.cells cur.toArray e (0, 0))) (h3 : n ≤ c) (h4 : c ≤ maxLen) (h5 : cur.length = c * size) (h6 : ∀ (i : Nat) (u : Value), cur[i]? = some u → ok (i % size) u) :
    OwnT w base e size ok (.slice (some ⟨g, 0, none⟩) n c) n (cur.take (n * size)) :=
  ⟨own_close cur h1 h2 h3 h4 h5, fun g' cur' hg hc i u hu => by
    simp only [Value.ownBlock, Option.some.injEq] at hg
    subst hg
    rw [h2] at hc
    simp only [Option.some.injEq, Obj.cells.injEq, and_true] at hc
    subst hc
    exact h6 i u (by simpa using hu)⟩
theorem OwnT.weaken {ok' : Nat → Value → Prop} (h : OwnT w base e size ok v n xs) (hk : ∀ i u, ok i u → ok' i u) : OwnT w base e size ok' v n xs :=
  ⟨h.1, fun g cur hg hc i u hu => hk _ _ (h.2 g cur hg hc i u hu)⟩
theorem OwnT.elems (h : OwnT w base e size ok v n xs) : ∀ (i : Nat) (u : Value), xs[i]? = some u → ok (i % size) u := by
  intro i u hu
  rcases h.1.2 with ⟨rfl, rfl⟩ | ⟨g, cap, cur, rfl, _, hg, _, _, _, ht⟩
  · have := h.1.1
    simp only [Nat.zero_mul] at this
    rw [List.eq_nil_of_length_eq_zero this] at hu
    simp at hu
  · refine h.2 g cur rfl hg i u ?_
    rw [← ht, List.getElem?_take] at hu
    split at hu
    · simpa using hu
    · cases hu
end
theorem mod_zeros {ok : Nat → Value → Prop} {z : Array Value} (hz : ∀ i u, z[i]? = some u → ok i u) (n i : Nat) (u : Value) (h : (Builtin.zeroCells z n)[i]? = some u) : ok (i % z.size) u := by
  have hlt : i < n * z.size := by
    have := (Array.getElem?_eq_some_iff.1 h).1
    simpa [Builtin.zeroCells] using this
  have hs : 0 < z.size := Nat.pos_of_ne_zero (fun h0 => by rw [h0, Nat.mul_zero] at hlt; omega)
  have hm : i % z.size < z.size := Nat.mod_lt _ hs
  simp only [Builtin.zeroCells, Array.getElem?_map, Array.getElem?_range, hlt, if_true, Option.map_some, Option.some.injEq] at h
  rw [getElem!_pos z (i % z.size) hm] at h
  exact hz _ _ (by rw [Array.getElem?_eq_getElem hm, h])
section
variable {P : Program} (w : World)
theorem run_append_T (base : Nat) (t ty e : TypeId) (i : TypeInfo) (z : Value) (size bytes : Nat) (ht : P.underlying t = some (.slice e)) (hi : P.info? e = some i) (hz : i.zero = some z)
    (hsize : i.size = size) (hby : i.bytes = bytes) (hzs : z.cells.size = size) (hsz : 0 < size) {ok : Nat → Value → Prop} (hzo : ∀ j u, z.cells[j]? = some u → ok j u)
    (v : Value) (n : Nat) (xs : List Value) (hown : OwnT w base e size ok v n xs)
    (B : Nat) (A : Option Addr) (m c : Nat) (news : List Value) (hr : Reads w B size A m news) (h1 : ∀ u ∈ news, u.oneCell' = true) (hno : ∀ j u, news[j]? = some u → ok (j % size) u)
    (h63 : n + m ≤ maxLen) (hbytes : (n + m) * bytes ≤ 140737488355328) (hbase : base ≤ w.heap.size) :
    ∃ v' w', (Builtin.append_ #[t, t] ty #[v, .slice A m c]).run P w = .ok v' w' ∧ OwnT w' base e size ok v' (n + m) (xs ++ news) ∧ w.grownBy w' v.ownBlock ∧
      (v'.ownBlock = v.ownBlock ∨ v'.ownBlock = some w.heap.size) ∧ (v' = .slice none 0 0 ↔ v = .slice none 0 0 ∧ m = 0) := by
  subst hsize
  subst hby
  rcases A with _ | ad
  · have hm : m = 0 := by
      rcases Nat.eq_zero_or_pos m with h0 | h0
      · exact h0
      · obtain ⟨ad, h, _⟩ := hr.2 h0
        cases h
    subst hm
    have hn : news = [] := List.eq_nil_of_length_eq_zero (by simpa using hr.1)
    subst hn
    exact ⟨v, w, run_append_of_nil w base t ty e i i.size ht hi v n xs hown.1 c, by simpa using hown, World.grownBy.refl w _, .inl rfl, by simp⟩
  · have hnews : ∀ j u, news[j]? = some u → w.cell? (ad.add j) = some u := by
      intro j u hu
      rcases Nat.eq_zero_or_pos m with h0 | h0
      · subst h0
        have hn : news = [] := List.eq_nil_of_length_eq_zero (by simpa using hr.1)
        subst hn
        simp at hu
      · obtain ⟨ad', h, _, hc⟩ := hr.2 h0
        injection h with h
        subst h
        exact hc j u hu
    have hl := hr.1
    have hsmall : n + m ≤ 9223372036854775807 := by simp only [maxLen] at h63; omega
    have hlen : (xs ++ news).length = (n + m) * i.size := by rw [List.length_append, hown.1.1, hl, Nat.add_mul]
    have hel := hown.elems
    have hboth : ∀ (j : Nat) (u : Value), (xs ++ news)[j]? = some u → ok (j % i.size) u := by
      intro j u hu
      rcases Nat.lt_or_ge j xs.length with hlt | hge
      · rw [List.getElem?_append_left hlt] at hu
        exact hel j u hu
      · rw [List.getElem?_append_right hge] at hu
        have h2 := hno _ _ hu
        have hx := hown.1.1
        have h3 : j % i.size = (j - xs.length) % i.size := by
          rw [hx]
          obtain ⟨d, hd⟩ : ∃ d, j = d + n * i.size := ⟨j - n * i.size, by omega⟩
          rw [hd, Nat.add_mul_mod_self_right]
          congr 1
          omega
        rw [h3]
        exact h2
    have grown : ∀ (old : Nat), old < n + m → ∀ (row : Option Nat),
        OwnT (w.drew.alloc (.cells (xs.toArray ++ news.toArray ++ Builtin.zeroCells z.cells (grownCap w (n + m) old e - (n + m))) e)) base e i.size ok
          (.slice (some ⟨w.heap.size, 0, none⟩) (n + m) (grownCap w (n + m) old e)) (n + m) (xs ++ news) ∧
        w.grownBy (w.drew.alloc (.cells (xs.toArray ++ news.toArray ++ Builtin.zeroCells z.cells (grownCap w (n + m) old e - (n + m))) e)) row := by
      intro old ho row
      have hge := grownCap_ge w (n + m) old e
      have hcm : grownCap w (n + m) old e ≤ maxLen := grownCap_le_maxLen w (n + m) old e h63
      have hnew := heap_alloc_new w.drew (.cells (xs.toArray ++ news.toArray ++ Builtin.zeroCells z.cells (grownCap w (n + m) old e - (n + m))) e)
      have hcs : (xs.toArray ++ news.toArray ++ Builtin.zeroCells z.cells (grownCap w (n + m) old e - (n + m))).size = grownCap w (n + m) old e * i.size := by
        simp only [Array.size_append, List.size_toArray, size_zeroCells, hzs, hown.1.1, hl, ← Nat.add_mul]
        congr 1
        omega
      refine ⟨⟨⟨hlen, .inr ⟨w.heap.size, _, _, rfl, hbase, hnew, hge, hcm, hcs, ?_⟩⟩, ?_⟩, ⟨rfl, rfl, rfl, by simp, fun k hk _ => Below.heap_alloc w.drew _ k hk⟩⟩
      · simp only [Array.toList_append, List.append_assoc]
        rw [← List.append_assoc, ← hlen]
        exact List.take_left
      · intro g cur hg hc j u hu
        simp only [Value.ownBlock, Option.some.injEq] at hg
        subst hg
        have hnew' := hnew
        rw [show (w.drew).heap.size = w.heap.size from rfl] at hnew'
        rw [hnew'] at hc
        simp only [Option.some.injEq, Obj.cells.injEq, and_true] at hc
        subst hc
        generalize hZ : Builtin.zeroCells z.cells (grownCap w (n + m) old e - (n + m)) = Z at hu
        have hu2 : ((xs ++ news) ++ Z.toList)[j]? = some u := by
          have e1 : xs.toArray ++ news.toArray ++ Z = ((xs ++ news) ++ Z.toList).toArray := by apply Array.toList_inj.1; simp
          rw [e1, List.getElem?_toArray] at hu
          exact hu
        rcases Nat.lt_or_ge j (xs ++ news).length with hlt | hge2
        · rw [List.getElem?_append_left hlt] at hu2
          exact hboth j u hu2
        · rw [List.getElem?_append_right hge2, Array.getElem?_toList] at hu2
          have h2 := mod_zeros hzo (grownCap w (n + m) old e - (n + m)) _ u (by rw [hZ]; exact hu2)
          rw [hzs, hlen] at h2
          rw [hlen] at hge2
          obtain ⟨d, hd⟩ : ∃ d, j = d + (n + m) * i.size := ⟨j - (n + m) * i.size, by omega⟩
          rw [hd, Nat.add_mul_mod_self_right]
          rw [hd, Nat.add_sub_cancel] at h2
          exact h2
    rcases hown.1.2 with ⟨rfl, rfl⟩ | ⟨g, cap, cur, rfl, hbg, hg, hnc, hcm, hcs, htake⟩
    · have hx : xs = [] := List.eq_nil_of_length_eq_zero (by simpa using hown.1.1)
      subst hx
      by_cases hm : m = 0
      · subst hm
        have hn : news = [] := List.eq_nil_of_length_eq_zero (by simpa using hl)
        subst hn
        refine ⟨.slice none 0 0, w, ?_, OwnT.nil w base e i.size ok, ⟨rfl, rfl, rfl, Nat.le_refl _, fun _ _ _ => rfl⟩, .inl rfl, by simp⟩
        simp [Builtin.append_, run_underlying ht, sizeOf, typeInfo, hi, Builtin.lenOf, Builtin.firstCells, loadCells, loadCellsFrom]
      · have hr := run_append_nil (P := P) w t ty e i z ht hi hz ad m c news hl hnews (by omega) (by omega) (by have hb := hbytes; simp only [Nat.zero_add] at hb; omega)
        have hgr := grown 0 (by omega) (Value.ownBlock (.slice none 0 0))
        simp only [Nat.zero_add, List.nil_append, Array.empty_append] at hgr ⊢
        exact ⟨_, _, hr, hgr.1, hgr.2, .inr rfl, by simp [hm]⟩
    · by_cases hroom : n + m ≤ cap
      · have hfit : n * i.size + news.length ≤ cur.size := by rw [hl, hcs, ← Nat.add_mul]; exact Nat.mul_le_mul_right _ hroom
        have hr := run_append_room (P := P) w t ty e i ht hi g n cap cur hg ad m c news hl hnews h1 hroom hfit
        have hset := setRow_heap w g cur (cur.toList.take (n * i.size) ++ news ++ cur.toList.drop (n * i.size + news.length)).toArray e _ hg
        refine ⟨_, _, hr, ⟨⟨hlen, .inr ⟨g, cap, _, rfl, hbg, hset, hroom, hcm, ?_, ?_⟩⟩, ?_⟩, ⟨rfl, rfl, rfl, by simp, fun k _ hk => setRow_other w g k _ (fun e => hk (by simp [Value.ownBlock, e]))⟩, .inl rfl, by simp⟩
        · simp only [List.size_toArray, List.length_append, List.length_take, List.length_drop, Array.length_toList]
          omega
        · rw [htake, ← hlen]
          exact List.take_left
        · intro g' cur' hg' hc' j u hu
          simp only [Value.ownBlock, Option.some.injEq] at hg'
          subst hg'
          rw [hset] at hc'
          simp only [Option.some.injEq, Obj.cells.injEq, and_true] at hc'
          subst hc'
          rw [htake, List.getElem?_toArray] at hu
          rcases Nat.lt_or_ge j (xs ++ news).length with hlt | hge2
          · rw [List.getElem?_append_left hlt] at hu
            exact hboth j u hu
          · rw [List.getElem?_append_right hge2, List.getElem?_drop] at hu
            refine hown.2 g cur rfl hg j u ?_
            have hx := hown.1.1
            rw [show n * i.size + news.length + (j - (xs ++ news).length) = j by rw [List.length_append] at hge2 ⊢; omega] at hu
            simpa using hu
      · have holds : ∀ j u, xs[j]? = some u → w.cell? ((⟨g, 0, none⟩ : Addr).add j) = some u := hown.1.cells (g := g) rfl
        have hr := run_append_grow (P := P) w t ty e i z ht hi hz ⟨g, 0, none⟩ n cap xs hown.1.1 holds ad m c news hl hnews (by omega) (by omega) (growslice_fits (by omega) hbytes)
        have hgr := grown cap (by omega) (Value.ownBlock (.slice (some ⟨g, 0, none⟩) n cap))
        exact ⟨_, _, hr, hgr.1, hgr.2, .inr rfl, by simp⟩
theorem wp_append_T {o : Oper} {a : Act} {K : Act → World → Prop} {Q : Exit → Act → World → Prop} (s x : Operand) (t : TypeId)
    (ho : o.op = .call { callee := .builtin .append, args := #[s, x], argTypes := #[t, t] })
    (base : Nat) (e : TypeId) (i : TypeInfo) (z : Value) (size bytes : Nat) (ht : P.underlying t = some (.slice e)) (hi : P.info? e = some i) (hz : i.zero = some z)
    (hsize : i.size = size) (hby : i.bytes = bytes) (hzs : z.cells.size = size) (hsz : 0 < size) {ok : Nat → Value → Prop} (hzo : ∀ j u, z.cells[j]? = some u → ok j u)
    (v : Value) (n : Nat) (xs : List Value) (hs : a.eval s = v) (hown : OwnT w base e size ok v n xs)
    (B : Nat) (A : Option Addr) (m c : Nat) (news : List Value) (hx : a.eval x = .slice A m c) (hr : Reads w B size A m news) (h1 : ∀ u ∈ news, u.oneCell' = true) (hno : ∀ j u, news[j]? = some u → ok (j % size) u)
    (h63 : n + m ≤ maxLen) (hbytes : (n + m) * bytes ≤ 140737488355328) (hbase : base ≤ w.heap.size)
    (h : ∀ v' w', OwnT w' base e size ok v' (n + m) (xs ++ news) → w.grownBy w' v.ownBlock → (v'.ownBlock = v.ownBlock ∨ v'.ownBlock = some w.heap.size) → (v' = .slice none 0 0 ↔ v = .slice none 0 0 ∧ m = 0) → K (a.put o.dst v') w') : o.wp P a w K Q := by
  obtain ⟨v', w', hrun, h2, h3, h4, h5⟩ := run_append_T (P := P) w base t o.type e i z size bytes ht hi hz hsize hby hzs hsz hzo v n xs hown B A m c news hr h1 hno h63 hbytes hbase
  unfold Oper.wp execOp
  simp only [ho, resolve, invoke, builtin, Sem.run_bind, Sem.run_pure, Result.andThen_ok, List.map_toArray, List.map_cons, List.map_nil, hs, hx, hrun]
  exact h v' w' h2 h3 h4 h5
theorem wpList_append_T {ops : Array Oper} {rest : List Oper} {o : Oper} {a : Act} {Q : Exit → Act → World → Prop} (hgd : o.guard = none) (s x : Operand) (t : TypeId)
    (ho : o.op = .call { callee := .builtin .append, args := #[s, x], argTypes := #[t, t] })
    (base : Nat) (e : TypeId) (i : TypeInfo) (z : Value) (size bytes : Nat) (ht : P.underlying t = some (.slice e)) (hi : P.info? e = some i) (hz : i.zero = some z)
    (hsize : i.size = size) (hby : i.bytes = bytes) (hzs : z.cells.size = size) (hsz : 0 < size) {ok : Nat → Value → Prop} (hzo : ∀ j u, z.cells[j]? = some u → ok j u)
    (v : Value) (n : Nat) (xs : List Value) (hs : a.eval s = v) (hown : OwnT w base e size ok v n xs)
    (B : Nat) (A : Option Addr) (m c : Nat) (news : List Value) (hx : a.eval x = .slice A m c) (hr : Reads w B size A m news) (h1 : ∀ u ∈ news, u.oneCell' = true) (hno : ∀ j u, news[j]? = some u → ok (j % size) u)
    (h63 : n + m ≤ maxLen) (hbytes : (n + m) * bytes ≤ 140737488355328) (hbase : base ≤ w.heap.size)
    (h : ∀ v' w', OwnT w' base e size ok v' (n + m) (xs ++ news) → w.grownBy w' v.ownBlock → (v'.ownBlock = v.ownBlock ∨ v'.ownBlock = some w.heap.size) → (v' = .slice none 0 0 ↔ v = .slice none 0 0 ∧ m = 0) → wpList P ops Q rest (a.put o.dst v') w') :
    wpList P ops Q (o :: rest) a w :=
  wpList_plain hgd fun _ hK => wp_append_T w s x t ho base e i z size bytes ht hi hz hsize hby hzs hsz hzo v n xs hs hown B A m c news hx hr h1 hno h63 hbytes hbase fun v' w' h2 h3 h4 h5 => hK _ _ (h v' w' h2 h3 h4 h5)
end
theorem zero_num (kd : IntKind) (h : (Lit.int kd 0).wf = true) : ∀ (j : Nat) (u : Value), (Value.int kd 0).cells[j]? = some u → isNum kd j u := by
  intro j u hu
  have : u = .int kd 0 := by
    have hc : (Value.int kd 0).cells = #[.int kd 0] := rfl
    rw [hc] at hu
    rcases j with _ | j
    · simpa using hu.symm
    · simp at hu
  exact ⟨0, this, h⟩
theorem nums_num {kd : IntKind} {xs : List Int} (h : ∀ x ∈ xs, (Lit.int kd x).wf = true) (size : Nat) : ∀ (j : Nat) (u : Value), (xs.map (Value.int kd))[j]? = some u → isNum kd (j % size) u := by
  intro j u hu
  obtain ⟨x, hx, rfl⟩ := List.mem_map.1 (List.mem_of_getElem? hu)
  exact ⟨x, rfl, h x hx⟩
end Go.Proofs.Ytgkoaambdejkdaa

namespace Go.Proofs.Ytgkoaambdejkdaa
open Go.RowKit
theorem own_u64_ok {w : World} {base n : Nat} {v : Value} {a : List Int} (h : OwnT w base 43 1 (isNum .u64) v n (a.map (.int .u64))) : ∀ x ∈ a, (Lit.int .u64 x).wf = true := by
  intro x hx
  obtain ⟨j, hj⟩ := List.mem_iff_getElem?.1 hx
  obtain ⟨y, e, hy⟩ := h.elems j (.int .u64 x) (by rw [List.getElem?_map, hj]; rfl)
  injection e with _ e
  rw [e]; exact hy
theorem own_i64_ok {w : World} {base n : Nat} {v : Value} {a : List Int} (h : OwnT w base 3 1 (isNum .i64) v n (a.map (.int .i64))) : ∀ x ∈ a, (Lit.int .i64 x).wf = true := by
  intro x hx
  obtain ⟨j, hj⟩ := List.mem_iff_getElem?.1 hx
  obtain ⟨y, e, hy⟩ := h.elems j (.int .i64 x) (by rw [List.getElem?_map, hj]; rfl)
  injection e with _ e
  rw [e]; exact hy
theorem OwnT.apart {w : World} {base : Nat} {e : TypeId} {size : Nat} {ok : Nat → Value → Prop} {v : Value} {n : Nat} {xs : List Value} (h : OwnT w base e size ok v n xs) {p : Addr} (hp : v.ownBlock ≠ some p.block) (u : Value) : OwnT (w.setCell p u) base e size ok v n xs :=
  ⟨own_apart h.1 hp u, fun g cur hg hc => h.2 g cur hg (by rw [← hc]; exact (Below.heap_setCell w p u g (fun e => hp (by rw [hg, e]))).symm)⟩
theorem OwnT.setElem {w : World} {base : Nat} {e : TypeId} {ok : Nat → Value → Prop} {q n c i : Nat} {xs : List Value} (h : OwnT w base e 1 ok (.slice (some ⟨q, 0, none⟩) n c) n xs) (hi : i < n) {u : Value} (hu : ok 0 u) :
    OwnT (w.setCell ⟨q, i, none⟩ u) base e 1 ok (.slice (some ⟨q, 0, none⟩) n c) n (xs.set i u) ∧ (∃ v, w.cell? ⟨q, i, none⟩ = some v) ∧ w.frozen? ⟨q, i, none⟩ = false := by
  obtain ⟨cur, h1, h2, h3, h4, h5, h6, h7⟩ := h.open
  have hB : Blk w q e cur.toArray := h2
  have hs := hB.set_ i u
  rw [List.setIfInBounds_toArray] at hs
  have hi2 : i < cur.length := by omega
  refine ⟨?_, ⟨cur[i], by rw [hB.cell]; simp [hi2]⟩, hB.frozen i⟩
  have := OwnT.close (w := w.setCell ⟨q, i, none⟩ u) (n := n) (c := c) (size := 1) (ok := ok) (cur.set i u) h1 hs h3 h4 (by rw [List.length_set]; exact h5) (fun j v hj => by
    by_cases hji : i = j
    · subst hji
      rw [List.getElem?_set_self hi2] at hj
      injection hj with hj
      rw [Nat.mod_one, ← hj]
      exact hu
    · rw [List.getElem?_set_ne hji] at hj
      exact h7 j v hj)
  rw [List.take_set, h6] at this
  exact this
theorem own_ptr {w : World} {base n c size : Nat} {e : TypeId} {A : Option Addr} {xs : List Value} (h : w.ownsRow base e size (.slice A n c) n xs) (hn : 0 < n) : ∃ q, A = some ⟨q, 0, none⟩ ∧ base ≤ q := by
  rcases h.2 with ⟨h1, h2⟩ | ⟨q, cap, cur, h1, h2, -⟩
  · omega
  · injection h1 with h1
    exact ⟨q, h1, h2⟩
theorem splice_ok {p : Value → Prop} {Z : List Value} {I : Nat} {vs : List Value} (h1 : ∀ u ∈ Z, p u) (h2 : ∀ u ∈ vs, p u) : ∀ u ∈ splice Z I vs, p u := by
  intro u hu
  unfold splice at hu
  rcases List.mem_append.1 hu with hu | hu
  · exact h1 u (List.mem_of_mem_take hu)
  · rcases List.mem_append.1 hu with hu | hu
    · exact h2 u hu
    · exact h1 u (List.mem_of_mem_drop hu)
set_option maxHeartbeats 400000 in
theorem clone_u64T (A : Option Addr) (n c B : Nat) (xs : List Value) (w : World) (hr : Reads w B 1 A n xs) (hB : B ≤ w.heap.size) (h1 : ∀ u ∈ xs, u.oneCell' = true) (hno : ∀ j u, xs[j]? = some u → isNum .u64 (j % 1) u) (hn : n * 8 ≤ 140737488355328) :
    Calls Try.prog 31 #[.slice A n c] w fun e w' => ∃ A' c', e = .returned (.slice A' n c') ∧ OwnT w' w.heap.size 43 1 (isNum .u64) (.slice A' n c') n xs ∧ Below w.heap.size w w' := by
  obtain ⟨i0, hi, hz0, hz1, hz2⟩ := info_parts info_u64
  rcases A with _ | ad
  · have hm : n = 0 := by
      rcases Nat.eq_zero_or_pos n with h0 | h0
      · exact h0
      · obtain ⟨ad, h, _⟩ := hr.2 h0
        cases h
    subst hm
    have hx : xs = [] := List.eq_nil_of_length_eq_zero (by simpa using hr.1)
    subst hx
    have hnil := fun (w : World) => Lib.run_eql_slice_nil (P := Try.prog) w 22 43 none 0 c 0 0 Try.underlying22
    go_enter Try.func31, Try.ntmps31
    go_wp2
    go_ret
    exact ⟨none, 0, rfl, OwnT.nil _ _ _ _ _, Below.refl _ _⟩
  · have hnil := fun (w : World) => Lib.run_eql_slice_nil (P := Try.prog) w 22 43 (some ad) n c 0 0 Try.underlying22
    have hmade : OwnT (w.alloc (.cells #[] 43)) w.heap.size 43 1 (isNum .u64) (.slice (some ⟨w.heap.size, 0, none⟩) 0 0) 0 [] := OwnT.close (w := w.alloc (.cells #[] 43)) (n := 0) (c := 0) (size := 1) [] (Nat.le_refl _) (heap_alloc_new w _) (Nat.le_refl _) (by decide) rfl (by simp)
    go_enter Try.func31, Try.ntmps31
    go_wp2_with (at_builtin; refine wpList_append_T _ rfl (.tmp 5) (.tmp 6) 22 rfl w.heap.size 43 i0 (.int .u64 0) 1 8 Try.underlying22 hi hz0 hz1 hz2 rfl (by decide) (zero_num .u64 rfl) (.slice (some ⟨w.heap.size, 0, none⟩) 0 0) 0 [] rfl hmade B (some ad) n c xs rfl (hr.alloc hB _) h1 hno (by simp [maxLen]; omega) (by simpa using hn) (by simp) ?_; rintro v' w1 hown hgr hbl -; obtain ⟨A', c', rfl⟩ := own_slice hown.1)
    go_ret
    exact ⟨A', c', rfl, by simpa using hown, ((Below.refl _ _).alloc (Nat.le_refl _) _).grown hgr (by simp) (by simp [Value.ownBlock])⟩
end Go.Proofs.Ytgkoaambdejkdaa

namespace Go.Proofs.Ytgkoaambdejkdaa
open Go.RowKit Go.Shelf
attribute [local go_sem] Oper.semAt_some
theorem wpListIn_append_T {F : Fence} {n : Nat} {P : Program} (w : World) {ops : Array Oper} {rest : List Oper} {o : Oper} {a : Act} {Q : Exit → Act → World → Prop}
    (hg : o.guard = none) (s x : Operand) (t : TypeId) (hop : o.op = Op.call { callee := Callee.builtin Builtin.append, args := #[s, x], argTypes := #[t, t] })
    (base : Nat) (e : TypeId) (i : TypeInfo) (z : Value) (size bytes : Nat) (h1 : P.underlying t = some (.slice e)) (h2 : P.info? e = some i) (h3 : i.zero = some z) (h4 : i.size = size) (h5 : i.bytes = bytes) (h6 : z.cells.size = size) (h7 : 0 < size)
    {ok : Nat → Value → Prop} (hzo : ∀ j u, z.cells[j]? = some u → ok j u)
    (v : Value) (k : Nat) (xs : List Value) (hs : a.eval s = v) (hown : OwnT w base e size ok v k xs) (B : Nat) (A : Option Addr) (m c : Nat) (news : List Value) (hx : a.eval x = .slice A m c) (hr : Reads w B size A m news)
    (h1c : ∀ u ∈ news, u.oneCell' = true) (hno : ∀ j u, news[j]? = some u → ok (j % size) u) (b1 : k + m ≤ maxLen) (b2 : (k + m) * bytes ≤ 140737488355328) (b3 : base ≤ w.heap.size)
    (hK : ∀ v' w', OwnT w' base e size ok v' (k + m) (xs ++ news) → w.grownBy w' v.ownBlock → (v' = .slice none 0 0 ↔ v = .slice none 0 0 ∧ m = 0) → wpListIn F n P ops Q rest (a.put o.dst v') w') :
    wpListIn F n P ops Q (o :: rest) a w := by
  refine wpListIn_plain hg fun K hK' => ?_
  obtain ⟨v', w', hrun, r1, r2, -, r3⟩ := run_append_T (P := P) w base t o.type e i z size bytes h1 h2 h3 h4 h5 h6 h7 hzo v k xs hown B A m c news hr h1c hno b1 b2 b3
  unfold Oper.wpIn
  refine ⟨?_, ?_⟩
  · simp [Oper.about, hop, resolve, Target.leads, Sem.run_pure]
  · rw [Oper.semAt_plain F _ _ (by rw [hop]; intro c hc'; cases hc')]
    simp [execOp, hop, resolve, invoke, builtin, hs, hx, hrun, Result.andThen]
    exact hK' _ _ (hK v' w' r1 r2 r3)
theorem holdsT_own {β : Type} (n₀ B : Nat) (t e : TypeId) (size : Nat) (ok : Nat → Value → Prop) (k : β → Nat) (f : β → List Value) : Own (fun s W => ∃ v, Boxed W B t v ∧ OwnT W n₀ e size ok v (k s) (f s)) := by
  rintro s X Y row ⟨v, hv, hr⟩ hg hrow
  refine ⟨v, hv.kept hg (fun e' => ?_), hr.kept hg ?_⟩
  · obtain ⟨o, ho, hc⟩ := hrow B e'.symm
    rw [show X.heap[B]? = _ from hv] at ho; cases ho; cases hc
  · rcases hr.1.2 with ⟨rfl, _⟩ | ⟨g, cap, cur, rfl, _, hgb, _⟩
    · exact .inl rfl
    · refine .inr fun e' => ?_
      obtain ⟨o, ho, hc⟩ := hrow g (by simpa [Value.ownBlock] using e'.symm)
      rw [hgb] at ho; cases ho; cases hc
theorem OwnT.putObj {W : World} {base : Nat} {e : TypeId} {size : Nat} {ok : Nat → Value → Prop} {v : Value} {k : Nat} {xs : List Value} (h : OwnT W base e size ok v k xs) {l : Nat} {o : Obj} (o' : Obj) (hl : W.heap[l]? = some o) (ho : o.isCells = false) : OwnT (W.putObj l o') base e size ok v k xs := by
  refine h.kept (grownBy_putObj' W l o') ?_
  rcases h.1.2 with ⟨rfl, _⟩ | ⟨g, cap, cur, rfl, _, hgb, _⟩
  · exact .inl rfl
  · refine .inr fun e' => ?_
    obtain rfl : g = l := by simpa [Value.ownBlock] using e'
    rw [hgb] at hl; cases hl; cases ho
set_option maxRecDepth 100000 in
set_option maxHeartbeats 2000000 in
theorem vals1_in (F : Fence) (n : Nat) (h7 : F.fn 78) (hro : F.round = none) (hn : 1 ≤ n) (l Bs n₀ B : Nat) (A : Option Addr) (len cap : Nat) (zs : List Int) (hlen : len ≤ 1000000000000000000) (hB : B ≤ n₀) (J Jx : List Int → World → Prop)
    (hY : ∀ pre x W, J pre W → pre.length < len → x ∈ zs → YieldAt F (n - 1) Try.prog l #[.int .i64 x] W fun e W' =>
      (e = .returned (.bool true) ∧ J (pre ++ [x]) W' ∧ Below n₀ W W') ∨ (e = .returned (.bool false) ∧ Jx (pre ++ [x]) W'))
    (W : World) (hBs : W.cell? ⟨Bs, 0, none⟩ = some (.slice A len cap)) (hr : Reads W B 1 A len (zs.map (.int .i64))) (hn₀ : n₀ ≤ W.heap.size) (h0 : J [] W) :
    CallsIn F n Try.prog 78 #[.func (.yield l) #[] #[], .pointer (some ⟨Bs, 0, none⟩)] W fun e W' => (∃ v, e = .returned v) ∧
      ((∃ ys, ys = zs ∧ J ys W') ∨ (∃ pre, pre <+: zs ∧ Jx pre W')) := by
  have hzl : zs.length = len := by have := hr.1; simpa using this
  refine callsIn_of_wp Try.func78 rfl h7 ?_ hro
  simp only [Try.ntmps78, List.size_toArray, List.length_cons, List.length_nil, Nat.reduceAdd, Nat.reduceSub, Array.replicate_succ, Array.replicate_zero, List.push_toArray, List.append_toArray, List.nil_append, List.cons_append]
  gi_wp2
  gi_loopw [7] (fun i wr => ∃ k : Nat, k ≤ len ∧ i = .int .i64 k ∧ J (zs.take k) wr ∧ Below n₀ W wr)
    (fun i _ => len - (intOf i).toNat)
  case atStart => exact ⟨0, Nat.zero_le _, rfl, h0, Below.refl _ _⟩
  case round =>
    obtain ⟨k, hk, rfl, hJs, hnx⟩ := hrel
    by_cases hlt : k < len
    · obtain ⟨ad, x, rfl, had, hx, cx⟩ := hr.num hlt
      have hcx := (hnx.cell (p := ad.add k) (by rw [block_of_add]; omega)).trans cx
      have hT : zs.take (k + 1) = zs.take k ++ [x] := by
        obtain ⟨q1, rfl⟩ := List.getElem?_eq_some_iff.1 hx
        exact List.take_succ_eq_append_getElem q1
      obtain ⟨fn, tmps, assign, body, hy, hR⟩ := hY _ x wr hJs (by rw [List.length_take]; omega) (List.mem_of_getElem? hx)
      clear hx cx
      gi_wp2
      refine hR.mono ?_
      rintro e W3 (⟨rfl, hJ3, hk3⟩ | ⟨rfl, hJx3⟩)
      · gi_wp2
        go_roundw
        case rel => exact ⟨k + 1, by omega, by simp, by rw [hT]; exact hJ3, hnx.trans hk3⟩
        case measure => simp [intOf]; omega
      · gi_wp2
        refine bodyPost_ret (results_none rfl _ _ _) rfl ?_
        exact ⟨⟨_, rfl⟩, .inr ⟨_, by rw [← hT]; exact List.take_prefix _ _, hJx3⟩⟩
    · obtain rfl : k = len := by omega
      gi_wp2
      go_end0
      exact ⟨⟨_, rfl⟩, .inl ⟨_, rfl, by rw [List.take_of_length_le (by omega)] at hJs; exact hJs⟩⟩
theorem vals_stops (F : Fence) (n : Nat) (h7 : F.fn 78) (hro : F.round = none) (hn : 1 ≤ n) (Bs n₀ B : Nat) (A : Option Addr) (len cap : Nat) (zs : List Int) (hlen : len ≤ 1000000000000000000) (w : World) (hBs : Bs < w.heap.size) (hB : B ≤ n₀) (hn₀ : n₀ ≤ w.heap.size)
    (hc : w.cell? ⟨Bs, 0, none⟩ = some (.slice A len cap)) (hr : Reads w B 1 A len (zs.map (.int .i64))) :
    SeqStopsK F n Try.prog 78 #[.pointer (some ⟨Bs, 0, none⟩)] (fun x : { x : Int // x ∈ zs } => #[Value.int .i64 x.1]) (Below n₀) (fun ys => ys.map (·.1) = zs) (fun pre => pre.map (·.1) <+: zs) len w := by
  intro l J Jx W hW _ _ hY h0
  have hc' := (hW.cell (p := ⟨Bs, 0, none⟩) hBs).trans hc
  have hr' : Reads W B 1 A len (zs.map (.int .i64)) := hr.below (hW.mono (by omega))
  have hw := hW.size
  refine (vals1_in F n h7 hro hn l Bs n₀ B A len cap zs hlen hB (fun ys W => ∃ xs : List { x : Int // x ∈ zs }, xs.map (·.1) = ys ∧ J xs W) (fun ys W => ∃ xs : List { x : Int // x ∈ zs }, xs.map (·.1) = ys ∧ Jx xs W)
    (fun pre x W1 hJ hl hx => ?_) W hc' hr' (by omega) ⟨[], rfl, h0⟩).mono ?_
  · obtain ⟨xs, rfl, hJ⟩ := hJ
    obtain ⟨fn, tmps, assign, body, hy, hR⟩ := hY xs ⟨x, hx⟩ W1 hJ (by simpa using hl)
    refine ⟨fn, tmps, assign, body, hy, hR.mono ?_⟩
    rintro e W' (⟨h1, h2, h3⟩ | ⟨h1, h2⟩)
    · exact .inl ⟨h1, ⟨_, by simp, h2⟩, h3⟩
    · exact .inr ⟨h1, ⟨_, by simp, h2⟩⟩
  · rintro e W' ⟨he, ⟨ys, rfl, xs, h1, h2⟩ | ⟨pre, hp, xs, h1, h2⟩⟩
    · exact ⟨he, .inl ⟨xs, h1, h2⟩⟩
    · exact ⟨he, .inr ⟨xs, by show List.map _ xs <+: zs; rw [h1]; exact hp, h2⟩⟩
set_option maxRecDepth 100000 in
set_option maxHeartbeats 2000000 in
theorem appendSeq_in (F : Fence) (n : Nat) (h7 : F.fn 78) (h11 : F.fn 91) (hro : F.round = none) (hn : 3 ≤ n) (Bs B : Nat) (A : Option Addr) (len cap : Nat) (zs : List Int) (hlen : len * 8 ≤ 140737488355328) (hz : ∀ x ∈ zs, (Lit.int .i64 x).wf = true)
    (w : World) (hBs : Bs < w.heap.size) (hB : B ≤ w.heap.size) (hc : w.cell? ⟨Bs, 0, none⟩ = some (.slice A len cap)) (hr : Reads w B 1 A len (zs.map (.int .i64))) :
    CallsIn F n Try.prog 91 #[.slice none 0 0, .func (.func 78) #[] #[.pointer (some ⟨Bs, 0, none⟩)]] w fun e w' => ∃ v, e = .returned v ∧ OwnT w' w.heap.size 3 1 (isNum .i64) v len (zs.map (.int .i64)) ∧ Below w.heap.size w w' := by
  have h1 : 1 ≤ n := by omega
  have hzl : zs.length = len := by have := hr.1; simpa using this
  obtain ⟨i0, hi, hz0, hz1, hz2⟩ := info_parts info_int
  refine callsIn_of_wp_marks Try.func91 rfl h11 ?_ hro
  simp only [Try.ntmps91, List.size_toArray, List.length_cons, List.length_nil, Nat.reduceAdd, Nat.reduceSub, Array.replicate_succ, Array.replicate_zero, List.push_toArray, List.append_toArray, List.nil_append, List.cons_append]
  gi_wp2
  have bO := Boxed.new w 23 (.slice none 0 0)
  have hB0 : Below w.heap.size w (w.alloc (.cells #[.slice none 0 0] 23)) := (Below.refl _ w).alloc (Nat.le_refl _) _
  refine wpIn_rangeFunc_ownG hro h1 (gf := 78) (lb := #[.pointer (some ⟨Bs, 0, none⟩)]) rfl h7 (enters_of Try.func78 (by kernel_rfl) rfl)
    (vals_stops F (n - 1) h7 hro (by omega) Bs w.heap.size B A len cap zs (by omega) _ (by simp; omega) hB (by simp) ((hB0.cell (p := ⟨Bs, 0, none⟩) hBs).trans hc) (hr.below (hB0.mono hB))) belowK_t (belowK_b (by simp)) (Below.refl _ _) (fun _ => rfl)
    (fun pre W => (∃ v, Boxed W w.heap.size 23 v ∧ OwnT W w.heap.size 3 1 (isNum .i64) v pre.length (pre.map (fun x => Value.int .i64 x.1))) ∧ Below w.heap.size w W)
    (fun _ _ _ => False)
    (OwnFrom.and (Own.from (holdsT_own w.heap.size w.heap.size 23 3 1 (isNum .i64) (fun pre : List { x : Int // x ∈ zs } => pre.length) (fun pre => pre.map (fun x => Value.int .i64 x.1))) _) (ownFrom_below (Nat.le_refl _) (by simp)))
    (fun _ _ _ _ _ hs _ _ => hs)
    ⟨⟨_, bO, OwnT.nil _ _ _ _ _⟩, hB0⟩
    (fun x => { tmps := #[.slice none 0 0, .func (.func 78) #[] #[.pointer (some ⟨Bs, 0, none⟩)], .pointer (some ⟨w.heap.size, 0, none⟩), undef, .slice none 0 0, .int .i64 x.1, .func (.func 78) #[] #[.pointer (some ⟨Bs, 0, none⟩)], .int .i64 x.1, undef, undef, undef, undef, undef], defers := [] }) ?assign ?body ?done ?stop
  case assign =>
    intro l x W K hK
    gi_wp2
    exact hK
  case body =>
    rintro l pre x W ⟨⟨v, hv, hrow⟩, hB⟩ hlt
    have hcv := hv.cell
    have hx := hz x.1 x.2
    have hrn := reads_new W [.int .i64 x.1] 3 1 1 rfl
    gi_wp2_with (gi_at_builtin; refine wpListIn_append_T _ rfl _ _ 23 rfl w.heap.size 3 i0 (.int .i64 0) 1 8 Try.underlying23 hi hz0 hz1 hz2 rfl (by decide) (zero_num .i64 rfl) _ pre.length _ rfl (hrow.alloc _) _ (some ⟨W.heap.size, 0, none⟩) 1 1 [.int .i64 x.1] rfl hrn (by simp [Value.oneCell']) (nums_num (xs := [x.1]) (by simpa using hx) 1) (by unfold maxLen; omega) (by omega) (by have := hB.size; simp; omega) ?_; intro v' w1 hown' hgrow _; obtain ⟨g', cap', rfl⟩ := ownsRow_succ hown'.1; obtain ⟨hv1, hv2, hr2, hk2, hb2⟩ := hv.appended (by decide) hrow.1 hB.size (Nat.le_refl _) hown'.1 hgrow; have hc1 := hv1.cell; have hf1 := hv1.frozen)
    refine ⟨hk2.from _, hb2, ⟨_, hv2, ?_⟩, hB.trans hb2⟩
    have := hown'.kept (grownBy_setCell' w1 w.heap.size (.slice (some ⟨g', 0, none⟩) (pre.length + 1) cap')) (.inr (hv1.not_row (by decide) hown'.1).symm)
    rw [List.length_append, List.length_cons, List.length_nil, List.map_append]
    exact this
  case done =>
    rintro D ys W hD hys ⟨⟨v, hv, hrow⟩, hB⟩ hK
    have hcv := hv.cell
    have e1 : ys.length = len := by have := congrArg List.length hys; rw [List.length_map] at this; omega
    have e2 : ys.map (fun x => Value.int .i64 x.1) = zs.map (.int .i64) := by have := congrArg (List.map (Value.int .i64)) hys; rw [List.map_map] at this; exact this
    rw [e1, e2] at hrow
    gi_wp2
    refine ⟨by simp, .inl ⟨_, _, rfl, run_takeDeferred hK, ?_⟩⟩
    exact ⟨_, results_tmp rfl _ _ _, v, rfl, hrow.putObj _ hK rfl, hB.trans (belowK_b (w := w) (Nat.le_refl _) W D _ _ (by simp at hD; omega) hK rfl rfl)⟩
  case stop =>
    rintro D c pre W _ _ h _
    exact h.elim
set_option maxHeartbeats 400000 in
theorem collect_in (F : Fence) (n : Nat) (h7 : F.fn 78) (h11 : F.fn 91) (h8 : F.fn 77) (hro : F.round = none) (hn : 4 ≤ n) (Bs B : Nat) (A : Option Addr) (len cap : Nat) (zs : List Int) (hlen : len * 8 ≤ 140737488355328) (hz : ∀ x ∈ zs, (Lit.int .i64 x).wf = true)
    (w : World) (hBs : Bs < w.heap.size) (hB : B ≤ w.heap.size) (hc : w.cell? ⟨Bs, 0, none⟩ = some (.slice A len cap)) (hr : Reads w B 1 A len (zs.map (.int .i64))) :
    CallsIn F n Try.prog 77 #[.func (.func 78) #[] #[.pointer (some ⟨Bs, 0, none⟩)]] w fun e w' => ∃ v, e = .returned v ∧ OwnT w' w.heap.size 3 1 (isNum .i64) v len (zs.map (.int .i64)) ∧ Below w.heap.size w w' := by
  have h1 : 1 ≤ n := by omega
  refine callsIn_of_wp Try.func77 rfl h8 ?_ hro
  simp only [Try.ntmps77, List.size_toArray, List.length_cons, List.length_nil, Nat.reduceAdd, Nat.reduceSub, Array.replicate_succ, Array.replicate_zero, List.push_toArray, List.append_toArray, List.nil_append, List.cons_append]
  gi_wp2_with (gi_at_call 91; refine (appendSeq_in F (n - 1) h7 h11 hro (by omega) Bs B A len cap zs hlen hz _ hBs hB hc hr).mono ?_; rintro e w' ⟨v, rfl, hrow, hb⟩)
  go_ret
  exact ⟨v, rfl, hrow, hb⟩
theorem collect_any (Bs B : Nat) (A : Option Addr) (len cap : Nat) (zs : List Int) (hlen : len * 8 ≤ 140737488355328) (hz : ∀ x ∈ zs, (Lit.int .i64 x).wf = true)
    (w : World) (hBs : Bs < w.heap.size) (hB : B ≤ w.heap.size) (hc : w.cell? ⟨Bs, 0, none⟩ = some (.slice A len cap)) (hr : Reads w B 1 A len (zs.map (.int .i64))) :
    Calls Try.prog 77 #[.func (.func 78) #[] #[.pointer (some ⟨Bs, 0, none⟩)]] w fun e w' => ∃ A' c', e = .returned (.slice A' len c') ∧ OwnT w' w.heap.size 3 1 (isNum .i64) (.slice A' len c') len (zs.map (.int .i64)) ∧ Below w.heap.size w w' := by
  refine Calls.mono (callsIn_wide.1 (collect_in Fence.wide 4 trivial trivial trivial rfl (by omega) Bs B A len cap zs hlen hz w hBs hB hc hr)) ?_
  rintro e w' ⟨v, rfl, hrow, hb⟩
  obtain ⟨A', c', rfl⟩ := own_slice hrow.1
  exact ⟨A', c', rfl, hrow, hb⟩
set_option maxHeartbeats 400000 in
theorem values_any (A : Option Addr) (n c : Nat) (w : World) :
    Calls Try.prog 50 #[.slice A n c] w fun e w' => e = .returned (.func (.func 78) #[] #[.pointer (some ⟨w.heap.size, 0, none⟩)]) ∧ w' = w.alloc (.cells #[.slice A n c] 23) := by
  go_enter Try.func50, Try.ntmps50
  go_wp2
  go_ret
  exact ⟨rfl, rfl⟩
open Go.Sort in
theorem ownT_putRow {enc : Int → Value} {w : World} {base : Nat} {e : TypeId} {ok : Nat → Value → Prop} {g n cap q k : Nat} {zs ys : List Int} (h : OwnT w base e 1 ok (.slice (some ⟨g, 0, none⟩) n cap) n (zs.map enc)) (hy : ys.length = n) (hk : k ≤ n) (ho : ∀ y ∈ ys, ok 0 (enc y)) :
    OwnT (putRow enc (Sort.ahead w q) g 0 ys.toArray) base e 1 ok (.slice (some ⟨g, 0, none⟩) k cap) k ((ys.take k).map enc) := by
  refine ⟨Lib.ownsRow_putRow h.1 hy hk, ?_⟩
  obtain ⟨cur, -, h2, -, -, -, -, h7⟩ := h.open
  intro g' cur' hg hc i u hu
  simp only [Value.ownBlock, Option.some.injEq] at hg
  subst hg
  have hb : (putRow enc (Sort.ahead w q) g 0 ys.toArray).heap[g]? = some (.cells (putCells enc 0 ys.toArray cur.toArray) e (0, 0)) := by
    simp [putRow, mapBlock, Sort.ahead, Array.getElem?_modify, h2, onCells]
  rw [hb] at hc
  simp only [Option.some.injEq, Obj.cells.injEq, and_true] at hc
  subst hc
  rw [Nat.mod_one]
  have hi : i < cur.length := by
    have := (Array.getElem?_eq_some_iff.1 hu).1
    simpa [putCells] using this
  simp only [putCells, Array.getElem?_mapIdx, Array.getElem?_eq_getElem (show i < cur.toArray.size by simpa using hi), Option.map_some, Option.some.injEq] at hu
  split at hu
  · rename_i hc
    rw [← hu]
    refine ho _ ?_
    have hl : i - 0 < ys.toArray.size := by have := hc; simp at this ⊢; omega
    rw [getElem!_pos ys.toArray (i - 0) hl]
    simp
  · have h8 := h7 i u (by rw [List.getElem?_eq_getElem hi]; simpa using hu)
    rwa [Nat.mod_one] at h8
open Go.Sort in
theorem sort_intT (base : Nat) (A : Option Addr) (n c : Nat) (xs : List Int) (w : World) (hown : OwnT w base 3 1 (isNum .i64) (.slice A n c) n (xs.map (.int .i64))) (hn : n * 8 ≤ 140737488355328) (hx : ∀ x ∈ xs, (Lit.int .i64 x).wf = true) :
    Calls Try.prog 51 #[.slice A n c] w fun e w' => e = .returned (.tuple #[]) ∧ OwnT w' base 3 1 (isNum .i64) (.slice A n c) n ((sortL xs).map (.int .i64)) ∧ w.grownBy w' (Value.slice A n c).ownBlock := by
  by_cases hnil : Value.slice A n c = .slice none 0 0
  · injection hnil with h1 h2 h3
    subst h1 h2 h3
    have hx : xs = [] := List.eq_nil_of_length_eq_zero (by have := hown.1.1; simpa using this)
    subst hx
    have H := AnyM.slices_Sort_int_none Try.sortI none 0 w
    refine Calls.mono H ?_
    rintro e w' ⟨rfl, rfl⟩
    exact ⟨rfl, by simpa [sortL] using hown, ⟨rfl, rfl, rfl, Nat.le_refl _, fun _ _ _ => rfl⟩⟩
  · obtain ⟨g, cap, hv, hb, hg, h1, h2, h3, hH⟩ := Lib.holds_of_ownsRow hown.1 hnil
    injection hv with e1 _ e3
    subst e1 e3
    have H := AnyM.slices_Sort_int Try.sortI g 0 c xs w hH hg (by omega)
    rw [h3] at H
    refine Calls.mono H ?_
    rintro e w' ⟨rfl, q, os, rfl⟩
    refine ⟨rfl, ?_, grownBy_sortedI _⟩
    have := ownT_putRow (q := q) (k := n) hown (ys := sortL xs) (by rw [sortL_length, h3]) (Nat.le_refl _) (fun y hy => ⟨y, rfl, hx y (sortL_mem.1 hy)⟩)
    rw [List.take_of_length_le (by rw [sortL_length]; omega)] at this
    exact this.kept (row := none) ⟨rfl, rfl, rfl, by simp, fun k hk _ => heap_grow_old _ _ hk⟩ (.inr (by simp [Value.ownBlock]))
set_option maxHeartbeats 400000 in
theorem sorted_any (Bs B : Nat) (A : Option Addr) (len cap : Nat) (zs : List Int) (hlen : len * 8 ≤ 140737488355328) (hz : ∀ x ∈ zs, (Lit.int .i64 x).wf = true)
    (w : World) (hBs : Bs < w.heap.size) (hB : B ≤ w.heap.size) (hc : w.cell? ⟨Bs, 0, none⟩ = some (.slice A len cap)) (hr : Reads w B 1 A len (zs.map (.int .i64))) :
    Calls Try.prog 49 #[.func (.func 78) #[] #[.pointer (some ⟨Bs, 0, none⟩)]] w fun e w' => ∃ A' c', e = .returned (.slice A' len c') ∧ OwnT w' w.heap.size 3 1 (isNum .i64) (.slice A' len c') len ((sortL zs).map (.int .i64)) ∧ Below w.heap.size w w' := by
  have H := Lib.hid (collect_any Bs B A len cap zs hlen hz w hBs hB hc hr)
  clear hc hr
  go_enter Try.func49, Try.ntmps49
  go_wp2_with fail
  refine H.out.mono ?_
  rintro e w1 ⟨A', c', rfl, hown, hb⟩
  have H2 := Lib.hid (sort_intT _ A' len c' zs w1 hown hlen hz)
  have HO := Lib.hid hown
  clear hown
  go_wp2_with fail
  refine H2.out.mono ?_
  rintro e w2 ⟨rfl, hown2, hg2⟩
  go_wp2
  go_ret
  exact ⟨A', c', rfl, hown2, hb.grown hg2 hb.size (fun g hg => (HO.out.1.lt g hg).1)⟩
end Go.Proofs.Ytgkoaambdejkdaa

namespace Go.Proofs
open Go.RowKit Go.Sort Go.Shelf
shelf_lay_g SlLaysN.n45 Slgn 45 at Try 37 as Try.deleteOne
end Go.Proofs
namespace Go.Proofs.Ytgkoaambdejkdaa
open Go.RowKit Go.Sort
theorem delete_one (base : Nat) (A : Option Addr) (n c k : Nat) (xs : List Int) (w : World) (hown : w.ownsRow base 3 1 (.slice A n c) n (xs.map (.int .i64))) (hk : k < n) :
    Calls Try.prog 37 #[.slice A n c, .int .i64 k, .int .i64 ((k : Int) + 1)] w fun e w' => e = .returned (.slice A (n - 1) c) ∧
      w'.ownsRow base 3 1 (.slice A (n - 1) c) (n - 1) ((xs.take k ++ xs.drop (k + 1)).map (.int .i64)) ∧ w.grownBy w' (Value.slice A n c).ownBlock := by
  have hnil : Value.slice A n c ≠ .slice none 0 0 := by intro h; injection h with _ h2; omega
  obtain ⟨g, cap, hv, hb, hg, h1, h2, h3, hH⟩ := Lib.holds_of_ownsRow hown hnil
  injection hv with e1 _ e3
  subst e1 e3
  have H := AnyG.slices_Delete_int Try.deleteOne g 0 c k (k + 1) xs w hH (by omega) (by unfold maxLen at h2; omega) (by omega) (by omega)
  rw [h3, show n - (k + 1 - k) = n - 1 by omega, show k + 1 - k = 1 by omega, show ((k + 1 : Nat) : Int) = (k : Int) + 1 by omega] at H
  have hl : (xs.take k ++ xs.drop (k + 1)).length = n - 1 := by rw [List.length_append, List.length_take, List.length_drop]; omega
  generalize xs.take k ++ xs.drop (k + 1) = L at *
  refine Calls.mono H ?_
  rintro e w' ⟨rfl, q, rfl⟩
  have := Lib.ownsRow_putRow (q := q) (k := n - 1) hown (ys := L ++ List.replicate 1 0) (by rw [List.length_append, hl, List.length_replicate]; omega) (by omega)
  rw [List.take_left' hl] at this
  exact ⟨rfl, this, grownBy_sortedI (os := #[]) _⟩
end Go.Proofs.Ytgkoaambdejkdaa

namespace Go.Proofs.Ytgkoaambdejkdaa
open Go.RowKit
theorem take_preK {α : Type} (Z : List α) (I : Nat) (vs : List α) (h : I ≤ Z.length) : (splice Z I vs).take (I + vs.length) = Z.take I ++ vs := by
  unfold splice
  rw [← List.append_assoc, List.take_append_of_le_length (by simp; omega), List.take_of_length_le (by simp; omega)]
theorem spliceAK {α : Type} (Z : List α) (I : Nat) (vs T : List α) (h : I + vs.length + T.length ≤ Z.length) :
    (splice (splice Z I vs) (I + vs.length) T).take (I + vs.length + T.length) = Z.take I ++ (vs ++ T) := by
  rw [take_preK _ _ _ (by rw [length_splice _ _ _ (by omega)]; omega), take_preK _ _ _ (by omega), List.append_assoc]
theorem spliceBK {α : Type} (Z : List α) (I : Nat) (vs T : List α) (h : I + vs.length + T.length ≤ Z.length) :
    (splice (splice Z (I + vs.length) T) I vs).take (I + vs.length + T.length) = Z.take I ++ (vs ++ T) := by
  have h1 : (splice Z (I + vs.length) T).take I = Z.take I := by
    unfold splice
    rw [List.take_append_of_le_length (by simp; omega), List.take_take, Nat.min_eq_left (by omega)]
  have h2 : ((splice Z (I + vs.length) T).drop (I + vs.length)).take T.length = T := by
    unfold splice
    rw [List.drop_append_of_le_length (by simp; omega), List.drop_of_length_le (by simp; omega), List.nil_append, List.take_left]
  unfold splice at h1 h2 ⊢
  rw [h1, ← List.append_assoc, List.take_append, List.take_of_length_le (by simp; omega)]
  rw [show I + vs.length + T.length - (Z.take I ++ vs).length = T.length by simp; omega, h2, List.append_assoc]
theorem splice_lenK {α : Type} (Z : List α) (I : Nat) (cs : List α) (h : I + cs.length ≤ Z.length) : (splice Z I cs).length = Z.length := length_splice Z I cs h
theorem grownBy_setRowK {w : World} {g : Nat} {cs : Array Value} : w.grownBy (w.setRow g cs) (some g) := by
  refine ⟨rfl, rfl, rfl, by simp [World.setRow], fun b hb hne => ?_⟩
  exact setRow_other _ _ _ _ (fun e => hne (by rw [e]))
end Go.Proofs.Ytgkoaambdejkdaa
