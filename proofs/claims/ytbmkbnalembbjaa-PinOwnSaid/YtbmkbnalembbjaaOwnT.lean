/-
  Owned slices whose whole row, the spare cells too, is of the element's kind: 'ok i u' says of the cell at place i of an element that it may hold u.
-/
import Derived.Test.YtbmkbnalembbjaaRows
import Derived.Test.YtbmkbnalembbjaaBase
namespace Go.Proofs.Ytbmkbnalembbjaa
open Go.RowKit

def OwnT (w : World) (base : Nat) (e : TypeId) (size : Nat) (ok : Nat → Value → Prop) (v : Value) (n : Nat) (xs : List Value) : Prop :=
  w.ownsRow base e size v n xs ∧ ∀ (g : Nat) (cur : Array Value), v.ownBlock = some g → w.heap[g]? = some (.cells cur e (0, 0)) → ∀ (i : Nat) (u : Value), cur[i]? = some u → ok (i % size) u
/-- A whole number of a kind. -/
def isNum (kd : IntKind) (_ : Nat) (u : Value) : Prop := ∃ x, u = .int kd x ∧ (Lit.int kd x).wf = true

section
variable {w w' : World} {base base' n : Nat} {e : TypeId} {size : Nat} {ok : Nat → Value → Prop} {v : Value} {xs : List Value}
theorem OwnT.own (h : OwnT w base e size ok v n xs) : w.ownsRow base e size v n xs := h.1
theorem OwnT.nil (w : World) (base : Nat) (e : TypeId) (size : Nat) (ok : Nat → Value → Prop) : OwnT w base e size ok (.slice none 0 0) 0 [] :=
  ⟨World.ownsRow_nil _ _ _ _, fun g cur h => by simp [Value.ownBlock] at h⟩
theorem OwnT.mono (h : OwnT w base' e size ok v n xs) (hb : base ≤ base') : OwnT w base e size ok v n xs := ⟨own_mono h.1 hb, h.2⟩
theorem OwnT.below (h : OwnT w base e size ok v n xs) (hb : Below w.heap.size w w') : OwnT w' base e size ok v n xs :=
  ⟨own_below h.1 hb, fun g cur hg hc => h.2 g cur hg (by rw [← hb.block g (h.1.lt g hg).2]; exact hc)⟩
theorem OwnT.kept {row : Option Nat} (h : OwnT w base e size ok v n xs) (hg : w.grownBy w' row) (hne : v.ownBlock = none ∨ v.ownBlock ≠ row) : OwnT w' base e size ok v n xs :=
  ⟨h.1.kept hg hne, fun g cur hv hc => h.2 g cur hv (by
    rw [← hg.block g (h.1.lt g hv).2 (fun e => by
      rcases hne with h0 | h0
      · rw [h0] at hv; cases hv
      · exact h0 (by rw [hv, e]))]
    exact hc)⟩
theorem OwnT.alloc (h : OwnT w base e size ok v n xs) (o : Obj) : OwnT (w.alloc o) base e size ok v n xs :=
  h.kept (World.grownBy_alloc w o none) (by cases hv : v.ownBlock <;> simp)
theorem OwnT.drewN (h : OwnT w base e size ok v n xs) (q : Nat) : OwnT (w.drewN q) base e size ok v n xs := h
/-- The row laid open: all cells, the spare ones too. -/
theorem OwnT.open {g c : Nat} (h : OwnT w base e size ok (.slice (some ⟨g, 0, none⟩) n c) n xs) :
    ∃ cur : List Value, base ≤ g ∧ w.heap[g]? = some (.cells cur.toArray e (0, 0)) ∧ n ≤ c ∧ c ≤ maxLen ∧ cur.length = c * size ∧ cur.take (n * size) = xs ∧ ∀ (i : Nat) (u : Value), cur[i]? = some u → ok (i % size) u := by
  obtain ⟨cur, h1, h2, h3, h4, h5, h6⟩ := own_open h.1
  exact ⟨cur, h1, h2, h3, h4, h5, h6, fun i u hu => h.2 g cur.toArray rfl h2 i u (by simpa using hu)⟩
theorem OwnT.close {g c : Nat} (cur : List Value) (h1 : base ≤ g) (h2 : w.heap[g]? = some (.cells cur.toArray e (0, 0))) (h3 : n ≤ c) (h4 : c ≤ maxLen) (h5 : cur.length = c * size) (h6 : ∀ (i : Nat) (u : Value), cur[i]? = some u → ok (i % size) u) :
    OwnT w base e size ok (.slice (some ⟨g, 0, none⟩) n c) n (cur.take (n * size)) :=
  ⟨own_close cur h1 h2 h3 h4 h5, fun g' cur' hg hc i u hu => by
    simp only [Value.ownBlock, Option.some.injEq] at hg
    subst hg
    rw [h2] at hc
    simp only [Option.some.injEq, Obj.cells.injEq, and_true] at hc
    subst hc
    exact h6 i u (by simpa using hu)⟩
theorem OwnT.weaken {ok' : Nat → Value → Prop} (h : OwnT w base e size ok v n xs) (hk : ∀ i u, ok i u → ok' i u) : OwnT w base e size ok' v n xs :=
  ⟨h.1, fun g cur hg hc i u hu => hk _ _ (h.2 g cur hg hc i u hu)⟩
/-- What the elements are. -/
theorem OwnT.elems (h : OwnT w base e size ok v n xs) : ∀ (i : Nat) (u : Value), xs[i]? = some u → ok (i % size) u := by
  intro i u hu
  rcases h.1.2 with ⟨rfl, rfl⟩ | ⟨g, cap, cur, rfl, _, hg, _, _, _, ht⟩
  · have := h.1.1
    simp only [Nat.zero_mul] at this
    rw [List.eq_nil_of_length_eq_zero this] at hu
    simp at hu
  · refine h.2 g cur rfl hg i u ?_
    rw [← ht, List.getElem?_take] at hu
    split at hu
    · simpa using hu
    · cases hu
end

theorem mod_zeros {ok : Nat → Value → Prop} {z : Array Value} (hz : ∀ i u, z[i]? = some u → ok i u) (n i : Nat) (u : Value) (h : (Builtin.zeroCells z n)[i]? = some u) : ok (i % z.size) u := by
  have hlt : i < n * z.size := by
    have := (Array.getElem?_eq_some_iff.1 h).1
    simpa [Builtin.zeroCells] using this
  have hs : 0 < z.size := Nat.pos_of_ne_zero (fun h0 => by rw [h0, Nat.mul_zero] at hlt; omega)
  have hm : i % z.size < z.size := Nat.mod_lt _ hs
  simp only [Builtin.zeroCells, Array.getElem?_map, Array.getElem?_range, hlt, if_true, Option.map_some, Option.some.injEq] at h
  rw [getElem!_pos z (i % z.size) hm] at h
  exact hz _ _ (by rw [Array.getElem?_eq_getElem hm, h])

section
variable {P : Program} (w : World)
theorem run_append_T (base : Nat) (t ty e : TypeId) (i : TypeInfo) (z : Value) (size bytes : Nat) (ht : P.underlying t = some (.slice e)) (hi : P.info? e = some i) (hz : i.zero = some z)
    (hsize : i.size = size) (hby : i.bytes = bytes) (hzs : z.cells.size = size) (hsz : 0 < size) {ok : Nat → Value → Prop} (hzo : ∀ j u, z.cells[j]? = some u → ok j u)
    (v : Value) (n : Nat) (xs : List Value) (hown : OwnT w base e size ok v n xs)
    (B : Nat) (A : Option Addr) (m c : Nat) (news : List Value) (hr : Reads w B size A m news) (h1 : ∀ u ∈ news, u.oneCell' = true) (hno : ∀ j u, news[j]? = some u → ok (j % size) u)
    (h63 : n + m ≤ maxLen) (hbytes : (n + m) * bytes ≤ 140737488355328) (hbase : base ≤ w.heap.size) :
    ∃ v' w', (Builtin.append_ #[t, t] ty #[v, .slice A m c]).run P w = .ok v' w' ∧ OwnT w' base e size ok v' (n + m) (xs ++ news) ∧ w.grownBy w' v.ownBlock ∧
      (v'.ownBlock = v.ownBlock ∨ v'.ownBlock = some w.heap.size) ∧ (v' = .slice none 0 0 ↔ v = .slice none 0 0 ∧ m = 0) := by
  subst hsize
  subst hby
  rcases A with _ | ad
  · have hm : m = 0 := by
      rcases Nat.eq_zero_or_pos m with h0 | h0
      · exact h0
      · obtain ⟨ad, h, _⟩ := hr.2 h0
        cases h
    subst hm
    have hn : news = [] := List.eq_nil_of_length_eq_zero (by simpa using hr.1)
    subst hn
    exact ⟨v, w, run_append_of_nil w base t ty e i i.size ht hi v n xs hown.1 c, by simpa using hown, World.grownBy.refl w _, .inl rfl, by simp⟩
  · have hnews : ∀ j u, news[j]? = some u → w.cell? (ad.add j) = some u := by
      intro j u hu
      rcases Nat.eq_zero_or_pos m with h0 | h0
      · subst h0
        have hn : news = [] := List.eq_nil_of_length_eq_zero (by simpa using hr.1)
        subst hn
        simp at hu
      · obtain ⟨ad', h, _, hc⟩ := hr.2 h0
        injection h with h
        subst h
        exact hc j u hu
    have hl := hr.1
    have hsmall : n + m ≤ 9223372036854775807 := by simp only [maxLen] at h63; omega
    have hlen : (xs ++ news).length = (n + m) * i.size := by rw [List.length_append, hown.1.1, hl, Nat.add_mul]
    have hel := hown.elems
    have hboth : ∀ (j : Nat) (u : Value), (xs ++ news)[j]? = some u → ok (j % i.size) u := by
      intro j u hu
      rcases Nat.lt_or_ge j xs.length with hlt | hge
      · rw [List.getElem?_append_left hlt] at hu
        exact hel j u hu
      · rw [List.getElem?_append_right hge] at hu
        have h2 := hno _ _ hu
        have hx := hown.1.1
        have h3 : j % i.size = (j - xs.length) % i.size := by
          rw [hx]
          obtain ⟨d, hd⟩ : ∃ d, j = d + n * i.size := ⟨j - n * i.size, by omega⟩
          rw [hd, Nat.add_mul_mod_self_right]
          congr 1
          omega
        rw [h3]
        exact h2
    have grown : ∀ (old : Nat), old < n + m → ∀ (row : Option Nat),
        OwnT (w.drew.alloc (.cells (xs.toArray ++ news.toArray ++ Builtin.zeroCells z.cells (grownCap w (n + m) old e - (n + m))) e)) base e i.size ok
          (.slice (some ⟨w.heap.size, 0, none⟩) (n + m) (grownCap w (n + m) old e)) (n + m) (xs ++ news) ∧
        w.grownBy (w.drew.alloc (.cells (xs.toArray ++ news.toArray ++ Builtin.zeroCells z.cells (grownCap w (n + m) old e - (n + m))) e)) row := by
      intro old ho row
      have hge := grownCap_ge w (n + m) old e
      have hcm : grownCap w (n + m) old e ≤ maxLen := grownCap_le_maxLen w (n + m) old e h63
      have hnew := heap_alloc_new w.drew (.cells (xs.toArray ++ news.toArray ++ Builtin.zeroCells z.cells (grownCap w (n + m) old e - (n + m))) e)
      have hcs : (xs.toArray ++ news.toArray ++ Builtin.zeroCells z.cells (grownCap w (n + m) old e - (n + m))).size = grownCap w (n + m) old e * i.size := by
        simp only [Array.size_append, List.size_toArray, size_zeroCells, hzs, hown.1.1, hl, ← Nat.add_mul]
        congr 1
        omega
      refine ⟨⟨⟨hlen, .inr ⟨w.heap.size, _, _, rfl, hbase, hnew, hge, hcm, hcs, ?_⟩⟩, ?_⟩, ⟨rfl, rfl, rfl, by simp, fun k hk _ => Below.heap_alloc w.drew _ k hk⟩⟩
      · simp only [Array.toList_append, List.append_assoc]
        rw [← List.append_assoc, ← hlen]
        exact List.take_left
      · intro g cur hg hc j u hu
        simp only [Value.ownBlock, Option.some.injEq] at hg
        subst hg
        have hnew' := hnew
        rw [show (w.drew).heap.size = w.heap.size from rfl] at hnew'
        rw [hnew'] at hc
        simp only [Option.some.injEq, Obj.cells.injEq, and_true] at hc
        subst hc
        generalize hZ : Builtin.zeroCells z.cells (grownCap w (n + m) old e - (n + m)) = Z at hu
        have hu2 : ((xs ++ news) ++ Z.toList)[j]? = some u := by
          have e1 : xs.toArray ++ news.toArray ++ Z = ((xs ++ news) ++ Z.toList).toArray := by apply Array.toList_inj.1; simp
          rw [e1, List.getElem?_toArray] at hu
          exact hu
        rcases Nat.lt_or_ge j (xs ++ news).length with hlt | hge2
        · rw [List.getElem?_append_left hlt] at hu2
          exact hboth j u hu2
        · rw [List.getElem?_append_right hge2, Array.getElem?_toList] at hu2
          have h2 := mod_zeros hzo (grownCap w (n + m) old e - (n + m)) _ u (by rw [hZ]; exact hu2)
          rw [hzs, hlen] at h2
          rw [hlen] at hge2
          obtain ⟨d, hd⟩ : ∃ d, j = d + (n + m) * i.size := ⟨j - (n + m) * i.size, by omega⟩
          rw [hd, Nat.add_mul_mod_self_right]
          rw [hd, Nat.add_sub_cancel] at h2
          exact h2
    rcases hown.1.2 with ⟨rfl, rfl⟩ | ⟨g, cap, cur, rfl, hbg, hg, hnc, hcm, hcs, htake⟩
    · have hx : xs = [] := List.eq_nil_of_length_eq_zero (by simpa using hown.1.1)
      subst hx
      by_cases hm : m = 0
      · subst hm
        have hn : news = [] := List.eq_nil_of_length_eq_zero (by simpa using hl)
        subst hn
        refine ⟨.slice none 0 0, w, ?_, OwnT.nil w base e i.size ok, ⟨rfl, rfl, rfl, Nat.le_refl _, fun _ _ _ => rfl⟩, .inl rfl, by simp⟩
        simp [Builtin.append_, run_underlying ht, sizeOf, typeInfo, hi, Builtin.lenOf, Builtin.firstCells, loadCells, loadCellsFrom]
      · have hr := run_append_nil (P := P) w t ty e i z ht hi hz ad m c news hl hnews (by omega) (by omega) (by have hb := hbytes; simp only [Nat.zero_add] at hb; omega)
        have hgr := grown 0 (by omega) (Value.ownBlock (.slice none 0 0))
        simp only [Nat.zero_add, List.nil_append, Array.empty_append] at hgr ⊢
        exact ⟨_, _, hr, hgr.1, hgr.2, .inr rfl, by simp [hm]⟩
    · by_cases hroom : n + m ≤ cap
      · have hfit : n * i.size + news.length ≤ cur.size := by rw [hl, hcs, ← Nat.add_mul]; exact Nat.mul_le_mul_right _ hroom
        have hr := run_append_room (P := P) w t ty e i ht hi g n cap cur hg ad m c news hl hnews h1 hroom hfit
        have hset := setRow_heap w g cur (cur.toList.take (n * i.size) ++ news ++ cur.toList.drop (n * i.size + news.length)).toArray e _ hg
        refine ⟨_, _, hr, ⟨⟨hlen, .inr ⟨g, cap, _, rfl, hbg, hset, hroom, hcm, ?_, ?_⟩⟩, ?_⟩, ⟨rfl, rfl, rfl, by simp, fun k _ hk => setRow_other w g k _ (fun e => hk (by simp [Value.ownBlock, e]))⟩, .inl rfl, by simp⟩
        · simp only [List.size_toArray, List.length_append, List.length_take, List.length_drop, Array.length_toList]
          omega
        · rw [htake, ← hlen]
          exact List.take_left
        · intro g' cur' hg' hc' j u hu
          simp only [Value.ownBlock, Option.some.injEq] at hg'
          subst hg'
          rw [hset] at hc'
          simp only [Option.some.injEq, Obj.cells.injEq, and_true] at hc'
          subst hc'
          rw [htake, List.getElem?_toArray] at hu
          rcases Nat.lt_or_ge j (xs ++ news).length with hlt | hge2
          · rw [List.getElem?_append_left hlt] at hu
            exact hboth j u hu
          · rw [List.getElem?_append_right hge2, List.getElem?_drop] at hu
            refine hown.2 g cur rfl hg j u ?_
            have hx := hown.1.1
            rw [show n * i.size + news.length + (j - (xs ++ news).length) = j by rw [List.length_append] at hge2 ⊢; omega] at hu
            simpa using hu
      · have holds : ∀ j u, xs[j]? = some u → w.cell? ((⟨g, 0, none⟩ : Addr).add j) = some u := hown.1.cells (g := g) rfl
        have hr := run_append_grow (P := P) w t ty e i z ht hi hz ⟨g, 0, none⟩ n cap xs hown.1.1 holds ad m c news hl hnews (by omega) (by omega) (growslice_fits (by omega) hbytes)
        have hgr := grown cap (by omega) (Value.ownBlock (.slice (some ⟨g, 0, none⟩) n cap))
        exact ⟨_, _, hr, hgr.1, hgr.2, .inr rfl, by simp⟩

theorem wp_append_T {o : Oper} {a : Act} {K : Act → World → Prop} {Q : Exit → Act → World → Prop} (s x : Operand) (t : TypeId)
    (ho : o.op = .call { callee := .builtin .append, args := #[s, x], argTypes := #[t, t] })
    (base : Nat) (e : TypeId) (i : TypeInfo) (z : Value) (size bytes : Nat) (ht : P.underlying t = some (.slice e)) (hi : P.info? e = some i) (hz : i.zero = some z)
    (hsize : i.size = size) (hby : i.bytes = bytes) (hzs : z.cells.size = size) (hsz : 0 < size) {ok : Nat → Value → Prop} (hzo : ∀ j u, z.cells[j]? = some u → ok j u)
    (v : Value) (n : Nat) (xs : List Value) (hs : a.eval s = v) (hown : OwnT w base e size ok v n xs)
    (B : Nat) (A : Option Addr) (m c : Nat) (news : List Value) (hx : a.eval x = .slice A m c) (hr : Reads w B size A m news) (h1 : ∀ u ∈ news, u.oneCell' = true) (hno : ∀ j u, news[j]? = some u → ok (j % size) u)
    (h63 : n + m ≤ maxLen) (hbytes : (n + m) * bytes ≤ 140737488355328) (hbase : base ≤ w.heap.size)
    (h : ∀ v' w', OwnT w' base e size ok v' (n + m) (xs ++ news) → w.grownBy w' v.ownBlock → (v'.ownBlock = v.ownBlock ∨ v'.ownBlock = some w.heap.size) → (v' = .slice none 0 0 ↔ v = .slice none 0 0 ∧ m = 0) → K (a.put o.dst v') w') : o.wp P a w K Q := by
  obtain ⟨v', w', hrun, h2, h3, h4, h5⟩ := run_append_T (P := P) w base t o.type e i z size bytes ht hi hz hsize hby hzs hsz hzo v n xs hown B A m c news hr h1 hno h63 hbytes hbase
  unfold Oper.wp execOp
  simp only [ho, resolve, invoke, builtin, Sem.run_bind, Sem.run_pure, Result.andThen_ok, List.map_toArray, List.map_cons, List.map_nil, hs, hx, hrun]
  exact h v' w' h2 h3 h4 h5

theorem wpList_append_T {ops : Array Oper} {rest : List Oper} {o : Oper} {a : Act} {Q : Exit → Act → World → Prop} (hgd : o.guard = none) (s x : Operand) (t : TypeId)
    (ho : o.op = .call { callee := .builtin .append, args := #[s, x], argTypes := #[t, t] })
    (base : Nat) (e : TypeId) (i : TypeInfo) (z : Value) (size bytes : Nat) (ht : P.underlying t = some (.slice e)) (hi : P.info? e = some i) (hz : i.zero = some z)
    (hsize : i.size = size) (hby : i.bytes = bytes) (hzs : z.cells.size = size) (hsz : 0 < size) {ok : Nat → Value → Prop} (hzo : ∀ j u, z.cells[j]? = some u → ok j u)
    (v : Value) (n : Nat) (xs : List Value) (hs : a.eval s = v) (hown : OwnT w base e size ok v n xs)
    (B : Nat) (A : Option Addr) (m c : Nat) (news : List Value) (hx : a.eval x = .slice A m c) (hr : Reads w B size A m news) (h1 : ∀ u ∈ news, u.oneCell' = true) (hno : ∀ j u, news[j]? = some u → ok (j % size) u)
    (h63 : n + m ≤ maxLen) (hbytes : (n + m) * bytes ≤ 140737488355328) (hbase : base ≤ w.heap.size)
    (h : ∀ v' w', OwnT w' base e size ok v' (n + m) (xs ++ news) → w.grownBy w' v.ownBlock → (v'.ownBlock = v.ownBlock ∨ v'.ownBlock = some w.heap.size) → (v' = .slice none 0 0 ↔ v = .slice none 0 0 ∧ m = 0) → wpList P ops Q rest (a.put o.dst v') w') :
    wpList P ops Q (o :: rest) a w :=
  wpList_plain hgd fun _ hK => wp_append_T w s x t ho base e i z size bytes ht hi hz hsize hby hzs hsz hzo v n xs hs hown B A m c news hx hr h1 hno h63 hbytes hbase fun v' w' h2 h3 h4 h5 => hK _ _ (h v' w' h2 h3 h4 h5)
end

theorem zero_num (kd : IntKind) (h : (Lit.int kd 0).wf = true) : ∀ (j : Nat) (u : Value), (Value.int kd 0).cells[j]? = some u → isNum kd j u := by
  intro j u hu
  have : u = .int kd 0 := by
    have hc : (Value.int kd 0).cells = #[.int kd 0] := rfl
    rw [hc] at hu
    rcases j with _ | j
    · simpa using hu.symm
    · simp at hu
  exact ⟨0, this, h⟩
theorem nums_num {kd : IntKind} {xs : List Int} (h : ∀ x ∈ xs, (Lit.int kd x).wf = true) (size : Nat) : ∀ (j : Nat) (u : Value), (xs.map (Value.int kd))[j]? = some u → isNum kd (j % size) u := by
  intro j u hu
  obtain ⟨x, hx, rfl⟩ := List.mem_map.1 (List.mem_of_getElem? hu)
  exact ⟨x, rfl, h x hx⟩
end Go.Proofs.Ytbmkbnalembbjaa
