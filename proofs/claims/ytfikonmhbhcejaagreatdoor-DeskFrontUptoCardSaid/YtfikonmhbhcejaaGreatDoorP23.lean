/-
  Texts joined: OwnT OwnBase RowK InsertStr.
-/
import Derived.Test.YtfikonmhbhcejaaGreatDoorRows
import Derived.Lib.Overlaps
import Derived.Deep.RegionHeld3
import Derived.StillTailTactics
import Derived.Test.YtfikonmhbhcejaaGreatDoorP0
import Derived.Test.YtfikonmhbhcejaaGreatDoorP3
import Derived.Test.YtfikonmhbhcejaaGreatDoorP22
namespace Go.Proofs.YtfikonmhbhcejaaGreatDoor
open Go.RowKit
def OwnT (w : World) (base : Nat) (e : TypeId) (size : Nat) (ok : Nat → Value → Prop) (v : Value) (n : Nat) (xs : List Value) : Prop :=
  w.ownsRow base e size v n xs ∧ ∀ (g : Nat) (cur : Array Value), v.ownBlock = some g → w.heap[g]? = some (.cells cur e (0, 0)) → ∀ (i : Nat) (u : Value), cur[i]? = some u → ok (i % size) u
def isNum (kd : IntKind) (_ : Nat) (u : Value) : Prop := ∃ x, u = .int kd x ∧ (Lit.int kd x).wf = true
section
variable {w w' : World} {base base' n : Nat} {e : TypeId} {size : Nat} {ok : Nat → Value → Prop} {v : Value} {xs : List Value}
theorem OwnT.own (h : OwnT w base e size ok v n xs) : w.ownsRow base e size v n xs := h.1
theorem OwnT.nil (w : World) (base : Nat) (e : TypeId) (size : Nat) (ok : Nat → Value → Prop) : OwnT w base e size ok (.slice none 0 0) 0 [] :=
  ⟨World.ownsRow_nil _ _ _ _, fun g cur h => by simp [Value.ownBlock] at h⟩
theorem OwnT.mono (h : OwnT w base' e size ok v n xs) (hb : base ≤ base') : OwnT w base e size ok v n xs := ⟨own_mono h.1 hb, h.2⟩
theorem OwnT.below (h : OwnT w base e size ok v n xs) (hb : Below w.heap.size w w') : OwnT w' base e size ok v n xs :=
  ⟨own_below h.1 hb, fun g cur hg hc => h.2 g cur hg (by rw [← hb.block g (h.1.lt g hg).2]; exact hc)⟩
theorem OwnT.kept {row : Option Nat} (h : OwnT w base e size ok v n xs) (hg : w.grownBy w' row) (hne : v.ownBlock = none ∨ v.ownBlock ≠ row) : OwnT w' base e size ok v n xs :=
  ⟨h.1.kept hg hne, fun g cur hv hc => h.2 g cur hv (by
    rw [← hg.block g (h.1.lt g hv).2 (fun e => by
      rcases hne with h0 | h0
      · rw [h0] at hv; cases hv
      · exact h0 (by rw [hv, e]))]
    exact hc)⟩
theorem OwnT.alloc (h : OwnT w base e size ok v n xs) (o : Obj) : OwnT (w.alloc o) base e size ok v n xs :=
  h.kept (World.grownBy_alloc w o none) (by cases hv : v.ownBlock <;> simp)
theorem OwnT.drewN (h : OwnT w base e size ok v n xs) (q : Nat) : OwnT (w.drewN q) base e size ok v n xs := h
theorem OwnT.open {g c : Nat} (h : OwnT w base e size ok (.slice (some ⟨g, 0, none⟩) n c) n xs) :
    ∃ cur : List Value, base ≤ g ∧ w.heap[g]? = some (.cells cur.toArray e (0, 0)) ∧ n ≤ c ∧ c ≤ maxLen ∧ cur.length = c * size ∧ cur.take (n * size) = xs ∧ ∀ (i : Nat) (u : Value), cur[i]? = some u → ok (i % size) u := by
  obtain ⟨cur, h1, h2, h3, h4, h5, h6⟩ := own_open h.1
  exact ⟨cur, h1, h2, h3, h4, h5, h6, fun i u hu => h.2 g cur.toArray rfl h2 i u (by simpa using hu)⟩
theorem OwnT.close {g c : Nat} (cur : List Value) (h1 : base ≤ g) (h2 : w.heap[g]? = some (.cells cur.toArray e (0, 0))) (h3 : n ≤ c) (h4 : c ≤ maxLen) (h5 : cur.length = c * size) (h6 : ∀ (i : Nat) (u : Value), cur[i]? = some u → ok (i % size) u) :
    OwnT w base e size ok (.slice (some ⟨g, 0, none⟩) n c) n (cur.take (n * size)) :=
  ⟨own_close cur h1 h2 h3 h4 h5, fun g' cur' hg hc i u hu => by
    simp only [Value.ownBlock, Option.some.injEq] at hg
    subst hg
    rw [h2] at hc
    simp only [Option.some.injEq, Obj.cells.injEq, and_true] at hc
    subst hc
    exact h6 i u (by simpa using hu)⟩
theorem OwnT.elems (h : OwnT w base e size ok v n xs) : ∀ (i : Nat) (u : Value), xs[i]? = some u → ok (i % size) u := by
  intro i u hu
  rcases h.1.2 with ⟨rfl, rfl⟩ | ⟨g, cap, cur, rfl, _, hg, _, _, _, ht⟩
  · have := h.1.1
    simp only [Nat.zero_mul] at this
    rw [List.eq_nil_of_length_eq_zero this] at hu
    simp at hu
  · refine h.2 g cur rfl hg i u ?_
    rw [← ht, List.getElem?_take] at hu
    split at hu
    · simpa using hu
    · cases hu
end
theorem mod_zeros {ok : Nat → Value → Prop} {z : Array Value} (hz : ∀ i u, z[i]? = some u → ok i u) (n i : Nat) (u : Value) (h : (Builtin.zeroCells z n)[i]? = some u) : ok (i % z.size) u := by
  have hlt : i < n * z.size := by
    have := (Array.getElem?_eq_some_iff.1 h).1
    simpa [Builtin.zeroCells] using this
  have hs : 0 < z.size := Nat.pos_of_ne_zero (fun h0 => by rw [h0, Nat.mul_zero] at hlt; omega)
  have hm : i % z.size < z.size := Nat.mod_lt _ hs
  simp only [Builtin.zeroCells, Array.getElem?_map, Array.getElem?_range, hlt, if_true, Option.map_some, Option.some.injEq] at h
  rw [getElem!_pos z (i % z.size) hm] at h
  exact hz _ _ (by rw [Array.getElem?_eq_getElem hm, h])
section
variable {P : Program} (w : World)
theorem run_append_T (base : Nat) (t ty e : TypeId) (i : TypeInfo) (z : Value) (size bytes : Nat) (ht : P.underlying t = some (.slice e)) (hi : P.info? e = some i) (hz : i.zero = some z)
    (hsize : i.size = size) (hby : i.bytes = bytes) (hzs : z.cells.size = size) (hsz : 0 < size) {ok : Nat → Value → Prop} (hzo : ∀ j u, z.cells[j]? = some u → ok j u)
    (v : Value) (n : Nat) (xs : List Value) (hown : OwnT w base e size ok v n xs)
    (B : Nat) (A : Option Addr) (m c : Nat) (news : List Value) (hr : Reads w B size A m news) (h1 : ∀ u ∈ news, u.oneCell' = true) (hno : ∀ j u, news[j]? = some u → ok (j % size) u)
    (h63 : n + m ≤ maxLen) (hbytes : (n + m) * bytes ≤ 140737488355328) (hbase : base ≤ w.heap.size) :
    ∃ v' w', (Builtin.append_ #[t, t] ty #[v, .slice A m c]).run P w = .ok v' w' ∧ OwnT w' base e size ok v' (n + m) (xs ++ news) ∧ w.grownBy w' v.ownBlock ∧
      (v'.ownBlock = v.ownBlock ∨ v'.ownBlock = some w.heap.size) ∧ (v' = .slice none 0 0 ↔ v = .slice none 0 0 ∧ m = 0) := by
  subst hsize
  subst hby
  rcases A with _ | ad
  · have hm : m = 0 := by
      rcases Nat.eq_zero_or_pos m with h0 | h0
      · exact h0
      · obtain ⟨ad, h, _⟩ := hr.2 h0
        cases h
    subst hm
    have hn : news = [] := List.eq_nil_of_length_eq_zero (by simpa using hr.1)
    subst hn
    exact ⟨v, w, run_append_of_nil w base t ty e i i.size ht hi v n xs hown.1 c, by simpa using hown, World.grownBy.refl w _, .inl rfl, by simp⟩
  · have hnews : ∀ j u, news[j]? = some u → w.cell? (ad.add j) = some u := by
      intro j u hu
      rcases Nat.eq_zero_or_pos m with h0 | h0
      · subst h0
        have hn : news = [] := List.eq_nil_of_length_eq_zero (by simpa using hr.1)
        subst hn
        simp at hu
      · obtain ⟨ad', h, _, hc⟩ := hr.2 h0
        injection h with h
        subst h
        exact hc j u hu
    have hl := hr.1
    have hsmall : n + m ≤ 9223372036854775807 := by simp only [maxLen] at h63; omega
    have hlen : (xs ++ news).length = (n + m) * i.size := by rw [List.length_append, hown.1.1, hl, Nat.add_mul]
    have hel := hown.elems
    have hboth : ∀ (j : Nat) (u : Value), (xs ++ news)[j]? = some u → ok (j % i.size) u := by
      intro j u hu
      rcases Nat.lt_or_ge j xs.length with hlt | hge
      · rw [List.getElem?_append_left hlt] at hu
        exact hel j u hu
      · rw [List.getElem?_append_right hge] at hu
        have h2 := hno _ _ hu
        have hx := hown.1.1
        have h3 : j % i.size = (j - xs.length) % i.size := by
          rw [hx]
          obtain ⟨d, hd⟩ : ∃ d, j = d + n * i.size := ⟨j - n * i.size, by omega⟩
          rw [hd, Nat.add_mul_mod_self_right]
          congr 1
          omega
        rw [h3]
        exact h2
    have grown : ∀ (old : Nat), old < n + m → ∀ (row : Option Nat),
        OwnT (w.drew.alloc (.cells (xs.toArray ++ news.toArray ++ Builtin.zeroCells z.cells (grownCap w (n + m) old e - (n + m))) e)) base e i.size ok
          (.slice (some ⟨w.heap.size, 0, none⟩) (n + m) (grownCap w (n + m) old e)) (n + m) (xs ++ news) ∧
        w.grownBy (w.drew.alloc (.cells (xs.toArray ++ news.toArray ++ Builtin.zeroCells z.cells (grownCap w (n + m) old e - (n + m))) e)) row := by
      intro old ho row
      have hge := grownCap_ge w (n + m) old e
      have hcm : grownCap w (n + m) old e ≤ maxLen := grownCap_le_maxLen w (n + m) old e h63
      have hnew := heap_alloc_new w.drew (.cells (xs.toArray ++ news.toArray ++ Builtin.zeroCells z.cells (grownCap w (n + m) old e - (n + m))) e)
      have hcs : (xs.toArray ++ news.toArray ++ Builtin.zeroCells z.cells (grownCap w (n + m) old e - (n + m))).size = grownCap w (n + m) old e * i.size := by
        simp only [Array.size_append, List.size_toArray, size_zeroCells, hzs, hown.1.1, hl, ← Nat.add_mul]
        congr 1
        omega
      refine ⟨⟨⟨hlen, .inr ⟨w.heap.size, _, _, rfl, hbase, hnew, hge, hcm, hcs, ?_⟩⟩, ?_⟩, ⟨rfl, rfl, rfl, by simp, fun k hk _ => Below.heap_alloc w.drew _ k hk⟩⟩
      · simp only [Array.toList_append, List.append_assoc]
        rw [← List.append_assoc, ← hlen]
        exact List.take_left
      · intro g cur hg hc j u hu
        simp only [Value.ownBlock, Option.some.injEq] at hg
        subst hg
        have hnew' := hnew
        rw [show (w.drew).heap.size = w.heap.size from rfl] at hnew'
        rw [hnew'] at hc
        simp only [Option.some.injEq, Obj.cells.injEq, and_true] at hc
        subst hc
        generalize hZ : Builtin.zeroCells z.cells (grownCap w (n + m) old e - (n + m)) = Z at hu
        have hu2 : ((xs ++ news) ++ Z.toList)[j]? = some u := by
          have e1 : xs.toArray ++ news.toArray ++ Z = ((xs ++ news) ++ Z.toList).toArray := by apply Array.toList_inj.1; simp
          rw [e1, List.getElem?_toArray] at hu
          exact hu
        rcases Nat.lt_or_ge j (xs ++ news).length with hlt | hge2
        · rw [List.getElem?_append_left hlt] at hu2
          exact hboth j u hu2
        · rw [List.getElem?_append_right hge2, Array.getElem?_toList] at hu2
          have h2 := mod_zeros hzo (grownCap w (n + m) old e - (n + m)) _ u (by rw [hZ]; exact hu2)
          rw [hzs, hlen] at h2
          rw [hlen] at hge2
          obtain ⟨d, hd⟩ : ∃ d, j = d + (n + m) * i.size := ⟨j - (n + m) * i.size, by omega⟩
          rw [hd, Nat.add_mul_mod_self_right]
          rw [hd, Nat.add_sub_cancel] at h2
          exact h2
    rcases hown.1.2 with ⟨rfl, rfl⟩ | ⟨g, cap, cur, rfl, hbg, hg, hnc, hcm, hcs, htake⟩
    · have hx : xs = [] := List.eq_nil_of_length_eq_zero (by simpa using hown.1.1)
      subst hx
      by_cases hm : m = 0
      · subst hm
        have hn : news = [] := List.eq_nil_of_length_eq_zero (by simpa using hl)
        subst hn
        refine ⟨.slice none 0 0, w, ?_, OwnT.nil w base e i.size ok, ⟨rfl, rfl, rfl, Nat.le_refl _, fun _ _ _ => rfl⟩, .inl rfl, by simp⟩
        simp [Builtin.append_, run_underlying ht, sizeOf, typeInfo, hi, Builtin.lenOf, Builtin.firstCells, loadCells, loadCellsFrom]
      · have hr := run_append_nil (P := P) w t ty e i z ht hi hz ad m c news hl hnews (by omega) (by omega) (by have hb := hbytes; simp only [Nat.zero_add] at hb; omega)
        have hgr := grown 0 (by omega) (Value.ownBlock (.slice none 0 0))
        simp only [Nat.zero_add, List.nil_append, Array.empty_append] at hgr ⊢
        exact ⟨_, _, hr, hgr.1, hgr.2, .inr rfl, by simp [hm]⟩
    · by_cases hroom : n + m ≤ cap
      · have hfit : n * i.size + news.length ≤ cur.size := by rw [hl, hcs, ← Nat.add_mul]; exact Nat.mul_le_mul_right _ hroom
        have hr := run_append_room (P := P) w t ty e i ht hi g n cap cur hg ad m c news hl hnews h1 hroom hfit
        have hset := setRow_heap w g cur (cur.toList.take (n * i.size) ++ news ++ cur.toList.drop (n * i.size + news.length)).toArray e _ hg
        refine ⟨_, _, hr, ⟨⟨hlen, .inr ⟨g, cap, _, rfl, hbg, hset, hroom, hcm, ?_, ?_⟩⟩, ?_⟩, ⟨rfl, rfl, rfl, by simp, fun k _ hk => setRow_other w g k _ (fun e => hk (by simp [Value.ownBlock, e]))⟩, .inl rfl, by simp⟩
        · simp only [List.size_toArray, List.length_append, List.length_take, List.length_drop, Array.length_toList]
          omega
        · rw [htake, ← hlen]
          exact List.take_left
        · intro g' cur' hg' hc' j u hu
          simp only [Value.ownBlock, Option.some.injEq] at hg'
          subst hg'
          rw [hset] at hc'
          simp only [Option.some.injEq, Obj.cells.injEq, and_true] at hc'
          subst hc'
          rw [htake, List.getElem?_toArray] at hu
          rcases Nat.lt_or_ge j (xs ++ news).length with hlt | hge2
          · rw [List.getElem?_append_left hlt] at hu
            exact hboth j u hu
          · rw [List.getElem?_append_right hge2, List.getElem?_drop] at hu
            refine hown.2 g cur rfl hg j u ?_
            have hx := hown.1.1
            rw [show n * i.size + news.length + (j - (xs ++ news).length) = j by rw [List.length_append] at hge2 ⊢; omega] at hu
            simpa using hu
      · have holds : ∀ j u, xs[j]? = some u → w.cell? ((⟨g, 0, none⟩ : Addr).add j) = some u := hown.1.cells (g := g) rfl
        have hr := run_append_grow (P := P) w t ty e i z ht hi hz ⟨g, 0, none⟩ n cap xs hown.1.1 holds ad m c news hl hnews (by omega) (by omega) (growslice_fits (by omega) hbytes)
        have hgr := grown cap (by omega) (Value.ownBlock (.slice (some ⟨g, 0, none⟩) n cap))
        exact ⟨_, _, hr, hgr.1, hgr.2, .inr rfl, by simp⟩
theorem wp_append_T {o : Oper} {a : Act} {K : Act → World → Prop} {Q : Exit → Act → World → Prop} (s x : Operand) (t : TypeId)
    (ho : o.op = .call { callee := .builtin .append, args := #[s, x], argTypes := #[t, t] })
    (base : Nat) (e : TypeId) (i : TypeInfo) (z : Value) (size bytes : Nat) (ht : P.underlying t = some (.slice e)) (hi : P.info? e = some i) (hz : i.zero = some z)
    (hsize : i.size = size) (hby : i.bytes = bytes) (hzs : z.cells.size = size) (hsz : 0 < size) {ok : Nat → Value → Prop} (hzo : ∀ j u, z.cells[j]? = some u → ok j u)
    (v : Value) (n : Nat) (xs : List Value) (hs : a.eval s = v) (hown : OwnT w base e size ok v n xs)
    (B : Nat) (A : Option Addr) (m c : Nat) (news : List Value) (hx : a.eval x = .slice A m c) (hr : Reads w B size A m news) (h1 : ∀ u ∈ news, u.oneCell' = true) (hno : ∀ j u, news[j]? = some u → ok (j % size) u)
    (h63 : n + m ≤ maxLen) (hbytes : (n + m) * bytes ≤ 140737488355328) (hbase : base ≤ w.heap.size)
    (h : ∀ v' w', OwnT w' base e size ok v' (n + m) (xs ++ news) → w.grownBy w' v.ownBlock → (v'.ownBlock = v.ownBlock ∨ v'.ownBlock = some w.heap.size) → (v' = .slice none 0 0 ↔ v = .slice none 0 0 ∧ m = 0) → K (a.put o.dst v') w') : o.wp P a w K Q := by
  obtain ⟨v', w', hrun, h2, h3, h4, h5⟩ := run_append_T (P := P) w base t o.type e i z size bytes ht hi hz hsize hby hzs hsz hzo v n xs hown B A m c news hr h1 hno h63 hbytes hbase
  unfold Oper.wp execOp
  simp only [ho, resolve, invoke, builtin, Sem.run_bind, Sem.run_pure, Result.andThen_ok, List.map_toArray, List.map_cons, List.map_nil, hs, hx, hrun]
  exact h v' w' h2 h3 h4 h5
theorem wpList_append_T {ops : Array Oper} {rest : List Oper} {o : Oper} {a : Act} {Q : Exit → Act → World → Prop} (hgd : o.guard = none) (s x : Operand) (t : TypeId)
    (ho : o.op = .call { callee := .builtin .append, args := #[s, x], argTypes := #[t, t] })
    (base : Nat) (e : TypeId) (i : TypeInfo) (z : Value) (size bytes : Nat) (ht : P.underlying t = some (.slice e)) (hi : P.info? e = some i) (hz : i.zero = some z)
    (hsize : i.size = size) (hby : i.bytes = bytes) (hzs : z.cells.size = size) (hsz : 0 < size) {ok : Nat → Value → Prop} (hzo : ∀ j u, z.cells[j]? = some u → ok j u)
    (v : Value) (n : Nat) (xs : List Value) (hs : a.eval s = v) (hown : OwnT w base e size ok v n xs)
    (B : Nat) (A : Option Addr) (m c : Nat) (news : List Value) (hx : a.eval x = .slice A m c) (hr : Reads w B size A m news) (h1 : ∀ u ∈ news, u.oneCell' = true) (hno : ∀ j u, news[j]? = some u → ok (j % size) u)
    (h63 : n + m ≤ maxLen) (hbytes : (n + m) * bytes ≤ 140737488355328) (hbase : base ≤ w.heap.size)
    (h : ∀ v' w', OwnT w' base e size ok v' (n + m) (xs ++ news) → w.grownBy w' v.ownBlock → (v'.ownBlock = v.ownBlock ∨ v'.ownBlock = some w.heap.size) → (v' = .slice none 0 0 ↔ v = .slice none 0 0 ∧ m = 0) → wpList P ops Q rest (a.put o.dst v') w') :
    wpList P ops Q (o :: rest) a w :=
  wpList_plain hgd fun _ hK => wp_append_T w s x t ho base e i z size bytes ht hi hz hsize hby hzs hsz hzo v n xs hs hown B A m c news hx hr h1 hno h63 hbytes hbase fun v' w' h2 h3 h4 h5 => hK _ _ (h v' w' h2 h3 h4 h5)
end
end Go.Proofs.YtfikonmhbhcejaaGreatDoor

namespace Go.Proofs.YtfikonmhbhcejaaGreatDoor
open Go.RowKit
theorem OwnT.apart {w : World} {base : Nat} {e : TypeId} {size : Nat} {ok : Nat → Value → Prop} {v : Value} {n : Nat} {xs : List Value} (h : OwnT w base e size ok v n xs) {p : Addr} (hp : v.ownBlock ≠ some p.block) (u : Value) : OwnT (w.setCell p u) base e size ok v n xs :=
  ⟨own_apart h.1 hp u, fun g cur hg hc => h.2 g cur hg (by rw [← hc]; exact (Below.heap_setCell w p u g (fun e => hp (by rw [hg, e]))).symm)⟩
theorem splice_ok {p : Value → Prop} {Z : List Value} {I : Nat} {vs : List Value} (h1 : ∀ u ∈ Z, p u) (h2 : ∀ u ∈ vs, p u) : ∀ u ∈ splice Z I vs, p u := by
  intro u hu
  unfold splice at hu
  rcases List.mem_append.1 hu with hu | hu
  · exact h1 u (List.mem_of_mem_take hu)
  · rcases List.mem_append.1 hu with hu | hu
    · exact h2 u hu
    · exact h1 u (List.mem_of_mem_drop hu)
end Go.Proofs.YtfikonmhbhcejaaGreatDoor

namespace Go.Proofs.YtfikonmhbhcejaaGreatDoor
open Go.RowKit
theorem take_preK {α : Type} (Z : List α) (I : Nat) (vs : List α) (h : I ≤ Z.length) : (splice Z I vs).take (I + vs.length) = Z.take I ++ vs := by
  unfold splice
  rw [← List.append_assoc, List.take_append_of_le_length (by simp; omega), List.take_of_length_le (by simp; omega)]
theorem spliceAK {α : Type} (Z : List α) (I : Nat) (vs T : List α) (h : I + vs.length + T.length ≤ Z.length) :
    (splice (splice Z I vs) (I + vs.length) T).take (I + vs.length + T.length) = Z.take I ++ (vs ++ T) := by
  rw [take_preK _ _ _ (by rw [length_splice _ _ _ (by omega)]; omega), take_preK _ _ _ (by omega), List.append_assoc]
theorem spliceBK {α : Type} (Z : List α) (I : Nat) (vs T : List α) (h : I + vs.length + T.length ≤ Z.length) :
    (splice (splice Z (I + vs.length) T) I vs).take (I + vs.length + T.length) = Z.take I ++ (vs ++ T) := by
  have h1 : (splice Z (I + vs.length) T).take I = Z.take I := by
    unfold splice
    rw [List.take_append_of_le_length (by simp; omega), List.take_take, Nat.min_eq_left (by omega)]
  have h2 : ((splice Z (I + vs.length) T).drop (I + vs.length)).take T.length = T := by
    unfold splice
    rw [List.drop_append_of_le_length (by simp; omega), List.drop_of_length_le (by simp; omega), List.nil_append, List.take_left]
  unfold splice at h1 h2 ⊢
  rw [h1, ← List.append_assoc, List.take_append, List.take_of_length_le (by simp; omega)]
  rw [show I + vs.length + T.length - (Z.take I ++ vs).length = T.length by simp; omega, h2, List.append_assoc]
theorem splice_lenK {α : Type} (Z : List α) (I : Nat) (cs : List α) (h : I + cs.length ≤ Z.length) : (splice Z I cs).length = Z.length := length_splice Z I cs h
theorem grownBy_setRowK {w : World} {g : Nat} {cs : Array Value} : w.grownBy (w.setRow g cs) (some g) := by
  refine ⟨rfl, rfl, rfl, by simp [World.setRow], fun b hb hne => ?_⟩
  exact setRow_other _ _ _ _ (fun e => hne (by rw [e]))
end Go.Proofs.YtfikonmhbhcejaaGreatDoor

namespace Go.Proofs.YtfikonmhbhcejaaGreatDoor
open Go.RowKit Go.Sort
def anyV (_ : Nat) (_ : Value) : Prop := True
theorem zero_any {v : Value} : ∀ (j : Nat) (u : Value), v.cells[j]? = some u → anyV j u := fun _ _ _ => trivial
theorem k_size_strT : (Tryz.prog.info? 9).map (·.size) = some 1 := by kernel_rfl
set_option maxRecDepth 100000 in
set_option maxHeartbeats 1000000 in
theorem insertStr_end (base : Nat) (A : Option Addr) (n c : Nat) (xs : List Value) (gv : Nat) (vs : List Value) (w : World)
    (hown : OwnT w base 9 1 (anyV) (.slice A n c) n xs) (hbase : base ≤ w.heap.size) (hn : n ≤ 1000)
    (hv : Blk w gv 9 vs.toArray) (o2 : ∀ u ∈ vs, u.oneCell' = true) (hvl : vs.length = 1) (ov : ∀ u ∈ vs, anyV 0 u) :
    Calls Tryz.prog 12 #[.slice A n c, .int .i64 n, .slice (some ⟨gv, 0, none⟩) 1 1] w fun e w' => ∃ A' c', e = .returned (.slice A' (n + 1) c') ∧ OwnT w' base 9 1 (anyV) (.slice A' (n + 1) c') (n + 1) (xs ++ vs) ∧ Below base w w' ∧ w.grownBy w' (Value.slice A n c).ownBlock ∧ ((Value.slice A' (n + 1) c').ownBlock = (Value.slice A n c).ownBlock ∨ (Value.slice A' (n + 1) c').ownBlock = some w.heap.size) := by
  obtain ⟨i0, hi, hz0, hz1, hz2⟩ := info_parts info_string
  have hrv : Reads w w.heap.size 1 (some ⟨gv, 0, none⟩) 1 vs := ⟨by omega, fun _ => ⟨_, rfl, hv.lt, fun j u hj => by
    rw [Addr.add_lit, Nat.zero_add, hv.cell]
    simpa using hj⟩⟩
  have hov2 : ∀ (j : Nat) (u : Value), vs[j]? = some u → anyV (j % 1) u := fun j u hu => by rw [Nat.mod_one]; exact ov u (List.mem_of_getElem? hu)
  clear hv
  rcases A with _ | ad
  · have hm : n = 0 := by
      rcases hown.1.2 with ⟨h2, rfl⟩ | ⟨g, cap, cur, hv, -⟩
      · rfl
      · cases hv
    subst hm
    go_enter Tryz.func12, Tryz.ntmps12
    go_wp2_with (at_builtin; refine wpList_append_T _ rfl (.tmp 23) (.tmp 24) 22 rfl base 9 i0 _ 1 16 Tryz.underlying22 hi hz0 hz1 hz2 rfl (by decide) (zero_any) (.slice none 0 c) 0 xs rfl hown w.heap.size (some ⟨gv, 0, none⟩) 1 1 vs rfl hrv o2 hov2 (by simp [maxLen]) (by omega) hbase ?_; rintro v' w2 hown2 hgr hbl2 -; obtain ⟨A2', c2', rfl⟩ := own_slice hown2.1)
    go_ret
    exact ⟨_, _, rfl, hown2, (Below.refl base w).grown hgr hbase (fun g hg => (hown.1.lt g hg).1), hgr, hbl2⟩
  · obtain ⟨g, rfl⟩ : ∃ g, ad = ⟨g, 0, none⟩ := by
      rcases hown.1.2 with ⟨h2, -⟩ | ⟨g, cap, cur, hv, -⟩
      · cases h2
      · injection hv with h1 h2 h3; injection h1 with h1; exact ⟨g, h1⟩
    have hnc := own_cap hown.1
    have wn : IntKind.i64.wrap (n : Int) = n := IntWalk.i64_in _ (by omega)
    go_enter Tryz.func12, Tryz.ntmps12
    go_wp2_with (at_builtin; refine wpList_append_T _ rfl (.tmp 23) (.tmp 24) 22 rfl base 9 i0 _ 1 16 Tryz.underlying22 hi hz0 hz1 hz2 rfl (by decide) (zero_any) (.slice (some ⟨g, 0, none⟩) n c) n xs rfl hown w.heap.size (some ⟨gv, 0, none⟩) 1 1 vs rfl hrv o2 hov2 (by simp [maxLen]; omega) (by omega) hbase ?_; rintro v' w2 hown2 hgr hbl2 -; obtain ⟨A2', c2', rfl⟩ := own_slice hown2.1)
    all_goals
      go_ret
      exact ⟨_, _, rfl, hown2, (Below.refl base w).grown hgr hbase (fun g hg => (hown.1.lt g hg).1), hgr, hbl2⟩
set_option maxRecDepth 100000 in
set_option maxHeartbeats 1000000 in
theorem insertStr_in (base g n c i : Nat) (xs : List Value) (gv : Nat) (vs : List Value) (w : World)
    (hown : OwnT w base 9 1 (anyV) (.slice (some ⟨g, 0, none⟩) n c) n xs) (hi : i < n) (hroom : n + 1 ≤ c) (hn : n ≤ 1000)
    (hv : Blk w gv 9 vs.toArray) (hne : gv ≠ g) (o1 : ∀ u ∈ xs, u.oneCell' = true) (o2 : ∀ u ∈ vs, u.oneCell' = true) (hvl : vs.length = 1) (ov : ∀ u ∈ vs, anyV 0 u) :
    Calls Tryz.prog 12 #[.slice (some ⟨g, 0, none⟩) n c, .int .i64 i, .slice (some ⟨gv, 0, none⟩) 1 1] w fun e w' => ∃ A' c', e = .returned (.slice A' (n + 1) c') ∧ OwnT w' base 9 1 (anyV) (.slice A' (n + 1) c') (n + 1) (xs.take i ++ (vs ++ xs.drop i)) ∧ Below base w w' ∧ w.grownBy w' (Value.slice (some ⟨g, 0, none⟩) n c).ownBlock ∧ ((Value.slice A' (n + 1) c').ownBlock = (Value.slice (some ⟨g, 0, none⟩) n c).ownBlock ∨ (Value.slice A' (n + 1) c').ownBlock = some w.heap.size) := by
  obtain ⟨cur, hbg, hg, hnc, hcm, hcl, htk, hty⟩ := hown.open
  rw [Nat.mul_one] at hcl htk
  have htc : ∀ u ∈ cur, anyV 0 u := fun u hu => by obtain ⟨j, hj⟩ := List.mem_iff_getElem?.1 hu; have := hty j u hj; rwa [Nat.mod_one] at this
  have hxl : xs.length = n := by simpa using hown.1.1
  obtain ⟨i1, hi1⟩ : ∃ i1, i1 = i + 1 := ⟨_, rfl⟩
  obtain ⟨n1, hn1⟩ : ∃ n1, n1 = n + 1 := ⟨_, rfl⟩
  obtain ⟨T, hT⟩ : ∃ T, T = xs.drop i := ⟨_, rfl⟩
  have hTl : T.length = (n - i) := by rw [hT, List.length_drop, hxl]
  have oT : ∀ u ∈ T, u.oneCell' = true := fun u hu => o1 u (by rw [hT] at hu; exact List.mem_of_mem_drop hu)
  have hTc : ∀ j v, T[j]? = some v → cur[i + j]? = some v := by
    intro j v hj
    rw [hT, List.getElem?_drop, ← htk, List.getElem?_take] at hj
    split at hj
    · exact hj
    · cases hj
  obtain ⟨Y1, hY1⟩ : ∃ Y1, Y1 = splice cur i1 T := ⟨_, rfl⟩
  obtain ⟨Y2, hY2⟩ : ∃ Y2, Y2 = splice Y1 i vs := ⟨_, rfl⟩
  have hY1l : Y1.length = c := by rw [hY1, splice_lenK _ _ _ (by omega), hcl]
  have hY2l : Y2.length = c := by rw [hY2, splice_lenK _ _ _ (by omega), hY1l]
  have hfin : Y2.take (n + 1) = xs.take i ++ (vs ++ T) := by
    have := spliceBK cur i vs T (by omega)
    rw [hvl, hTl, show i + 1 + (n - i) = (n + 1) by omega, ← hi1, ← hY1, ← hY2] at this
    rw [this, ← htk, List.take_take, Nat.min_eq_left (by omega)]
  rw [← hT, ← hfin]
  obtain ⟨W1, hW1⟩ : ∃ W1, W1 = w.drew.setRow g Y1.toArray := ⟨_, rfl⟩
  have hg1 : W1.heap[g]? = some (.cells Y1.toArray 9 (0, 0)) := by rw [hW1]; exact setRow_heap w.drew g _ _ _ _ hg
  have hcp1 : ∀ ty dc sc, (Builtin.copy_ #[22, 22] ty #[.slice (some ⟨g, i1, none⟩) (n1 - i1) dc, .slice (some ⟨g, i, none⟩) (n1 - i) sc]).run Tryz.prog w.drew = .ok (goInt (n - i : Nat)) W1 := fun ty dc sc => by
    rw [hW1, hY1]
    have := run_copyK (P := Tryz.prog) w.drew 22 22 ty 9 1 g (i + 1) (n1 - i1) dc ⟨g, i, none⟩ (n1 - i) sc (n - i) cur 9 T Tryz.underlying22 k_size_strT hg (by simp only [Nat.min_def]; split <;> omega) (by rw [hTl, Nat.mul_one])
      (fun j v hj => by rw [Addr.add_lit, cell_of_row w.drew _ _ _ _ _ hg]; simpa using hTc j v hj) (by omega) oT
    rw [← hi1] at this
    exact this
  obtain ⟨W2, hW2⟩ : ∃ W2, W2 = W1.setRow g Y2.toArray := ⟨_, rfl⟩
  have hg2 : W2.heap[g]? = some (.cells Y2.toArray 9 (0, 0)) := by rw [hW2]; exact setRow_heap W1 g _ _ _ _ hg1
  have hcp2 : ∀ ty dc, (Builtin.copy_ #[22, 22] ty #[.slice (some ⟨g, i, none⟩) (n1 - i) dc, .slice (some ⟨gv, 0, none⟩) 1 1]).run Tryz.prog W1 = .ok (goInt (1 : Nat)) W2 := fun ty dc => by
    rw [hW2, hY2]
    refine run_copyK (P := Tryz.prog) W1 22 22 ty 9 1 g i (n1 - i) dc ⟨gv, 0, none⟩ 1 1 1 Y1 9 vs Tryz.underlying22 k_size_strT hg1 (by simp only [Nat.min_def]; split <;> omega) (by omega) (fun j v hj => ?_) (by omega) o2
    rw [Addr.add_lit, Nat.zero_add, hW1, cell_setRow_other _ _ _ _ (by exact hne)]
    have := hv.cell j
    rw [List.getElem?_toArray] at this
    exact this.trans hj
  have hb2 : Below base w W2 := by
    rw [hW2, hW1]
    exact below_setRow (below_setRow (Below.refl base w).drew hbg _) hbg _
  have hTc' : ∀ v ∈ T, v ∈ cur := fun v hv => by obtain ⟨j, hj⟩ := List.mem_iff_getElem?.1 hv; exact List.mem_of_getElem? (hTc j v hj)
  have hown2 : OwnT W2 base 9 1 (anyV) (.slice (some ⟨g, 0, none⟩) (n + 1) c) (n + 1) (Y2.take (n + 1)) := by
    have hYt : ∀ u ∈ Y2, anyV 0 u := by rw [hY2, hY1]; exact splice_ok (splice_ok htc (fun v hv => htc v (hTc' v hv))) ov
    have := OwnT.close (size := 1) Y2 hbg hg2 hroom hcm (by rw [Nat.mul_one]; exact hY2l) (ok := anyV) (fun j u hu => by
      rw [Nat.mod_one]
      exact hYt u (List.mem_of_getElem? hu))
    rwa [Nat.mul_one] at this
  have hgl : g < w.heap.size := (Array.getElem?_eq_some_iff.1 hg).1
  have hov : ∀ o la lb cb, (callFunc 38 #[.slice (some ⟨gv, 0, none⟩) 1 la, .slice (some ⟨g, o, none⟩) lb cb]).run Tryz.prog w = .ok (.value (.bool false)) w := fun o la lb cb => by
    have hsa : w.shape? gv = some (9, vs.length) := by
      have : w.heap[gv]? = some (.cells vs.toArray 9 (0, 0)) := hv
      simp [World.shape?, this]
    have hsb : w.shape? g = some (9, cur.length) := by simp [World.shape?, hg]
    rw [run_callFunc_extern Tryz.func38 (by kernel_rfl) (by kernel_rfl) (by kernel_rfl) (e := Extern.SlicesOverlaps.overlaps #[22, 22] #[4]) (by kernel_rfl),
      Lib.run_overlaps_apart w 22 4 9 Tryz.underlying22 1 (fun w => by
        obtain ⟨i0, hi, hz0, hz1, hz2⟩ := info_parts info_string
        simp [sizeOf, typeInfo, hi, hz1]) ⟨gv, 0, none⟩ ⟨g, o, none⟩ 1 la lb cb hne _ _ _ _ hsa hsb (by omega) (hv.frozen 0) (hv.frozen _)]
    rfl
  have wi : IntKind.i64.wrap ((i : Int) + 1) = (i1 : Int) := by rw [IntWalk.i64_in _ (by omega)]; omega
  have wn : IntKind.i64.wrap ((n : Int) + 1) = (n1 : Int) := by rw [IntWalk.i64_in _ (by omega)]; omega
  have q1 : ¬ (i : Int) = n := by omega
  have q2 : i ≤ n := by omega
  have q3 : ¬ c = i := by omega
  have q4 : i1 ≤ n1 := by omega
  have q5 : ¬ c = i1 := by omega
  have q6 : n1 ≤ c := by omega
  have q7 : i ≤ n1 := by omega
  have q8 : decide ((c : Int) < n1) = false := decide_eq_false (by omega)
  have q9 : decide (c < n1) = false := decide_eq_false (by omega)
  have q10 : ((i : Int) == n) = false := by simp; omega
  have q11 : (i == n) = false := by simp; omega
  rw [← hn1] at hown2
  rw [← hn1]
  have HO := Lib.hid hown2
  have HGr : Hid (w.grownBy W2 (some g)) := by
    show World.grownBy _ _ _
    rw [hW2, hW1]
    exact (show w.grownBy w.drew (some g) from ⟨rfl, rfl, rfl, Nat.le_refl _, fun _ _ _ => rfl⟩).trans (grownBy_setRowK.trans grownBy_setRowK)
  have HB := Lib.hid hb2
  have HC1 := Lib.hid hcp1
  have HC2 := Lib.hid hcp2
  clear hi1 hn1 hown2 hb2 hcp1 hcp2 hfin hY2 hY1 hTc hTl hT htk hg1 hg2 hW1 hW2
  go_enter Tryz.func12, Tryz.ntmps12
  go_wp2_with (simp only [hov])
  go_region_law (refine step_copy_run rfl (.tmp 73) (.tmp 76) 22 22 rfl (.slice (some ⟨g, i1, none⟩) (n1 - i1) (c - i1)) (.slice (some ⟨g, i, none⟩) (n1 - i) (c - i)) (by simp [Act.eval, Act.put]) (by simp [Act.eval, Act.put]) (HC1.out _ _ _) ?_)
  all_goals
    go_wp2_with (refine wpList_copy_run _ rfl (.tmp 80) (.tmp 81) 22 22 rfl (.slice (some ⟨g, i, none⟩) (n1 - i) (c - i)) (.slice (some ⟨gv, 0, none⟩) 1 1) rfl rfl (HC2.out _ _) ?_)
    go_ret
    exact ⟨_, _, rfl, HO.out, HB.out, HGr.out, .inl rfl⟩
set_option maxRecDepth 100000 in
set_option maxHeartbeats 1000000 in
theorem insertStr_grow (base g n c i : Nat) (xs : List Value) (gv : Nat) (vs : List Value) (w : World)
    (hown : OwnT w base 9 1 (anyV) (.slice (some ⟨g, 0, none⟩) n c) n xs) (hbase : base ≤ w.heap.size) (hi : i < n) (hroom : c < n + 1) (hn : n ≤ 1000)
    (hv : Blk w gv 9 vs.toArray) (o1 : ∀ u ∈ xs, u.oneCell' = true) (o2 : ∀ u ∈ vs, u.oneCell' = true) (hvl : vs.length = 1) (ov : ∀ u ∈ vs, anyV 0 u) :
    Calls Tryz.prog 12 #[.slice (some ⟨g, 0, none⟩) n c, .int .i64 i, .slice (some ⟨gv, 0, none⟩) 1 1] w fun e w' => ∃ A' c', e = .returned (.slice A' (n + 1) c') ∧ OwnT w' base 9 1 (anyV) (.slice A' (n + 1) c') (n + 1) (xs.take i ++ (vs ++ xs.drop i)) ∧ Below base w w' ∧ w.grownBy w' (Value.slice (some ⟨g, 0, none⟩) n c).ownBlock ∧ ((Value.slice A' (n + 1) c').ownBlock = (Value.slice (some ⟨g, 0, none⟩) n c).ownBlock ∨ (Value.slice A' (n + 1) c').ownBlock = some w.heap.size) := by
  obtain ⟨cur, hbg, hg, hnc, hcm, hcl, htk, hty⟩ := hown.open
  rw [Nat.mul_one] at hcl htk
  have htc : ∀ u ∈ cur, anyV 0 u := fun u hu => by obtain ⟨j, hj⟩ := List.mem_iff_getElem?.1 hu; have := hty j u hj; rwa [Nat.mod_one] at this
  obtain rfl : c = n := by omega
  obtain ⟨i0, hi0, hz0, hz1, hz2⟩ := info_parts info_string
  have hxl : xs.length = c := by simpa using hown.1.1
  obtain rfl : cur = xs := by rw [← htk, List.take_of_length_le (by omega)]
  obtain ⟨i1, hi1⟩ : ∃ i1, i1 = i + 1 := ⟨_, rfl⟩
  obtain ⟨n1, hn1⟩ : ∃ n1, n1 = c + 1 := ⟨_, rfl⟩
  obtain ⟨k, hk⟩ : ∃ k, k = n1 - i := ⟨_, rfl⟩
  obtain ⟨T, hT⟩ : ∃ T, T = cur.drop i := ⟨_, rfl⟩
  have hTl : T.length = (c - i) := by rw [hT, List.length_drop, hxl]
  have oT : ∀ u ∈ T, u.oneCell' = true := fun u hu => o1 u (by rw [hT] at hu; exact List.mem_of_mem_drop hu)
  have hTc : ∀ j v, T[j]? = some v → cur[i + j]? = some v := by
    intro j v hj
    rw [hT, List.getElem?_drop] at hj
    exact hj
  obtain ⟨O, hO⟩ : ∃ O, O = cur.take i := ⟨_, rfl⟩
  have hOl : O.length = i := by rw [hO, List.length_take]; omega
  have hold : (Builtin.firstCells i0.size i (.slice (some ⟨g, 0, none⟩) i c)).run Tryz.prog w.drew = .ok O.toArray w.drew := by
    rw [hz1]
    refine run_firstK w.drew 1 i ⟨g, 0, none⟩ i c O (by rw [hOl, Nat.mul_one]) (fun j v hj => ?_)
    rw [Addr.add_lit, Nat.zero_add, cell_of_row w.drew _ _ _ _ _ hg, List.getElem?_toArray]
    rw [hO, List.getElem?_take] at hj
    split at hj
    · exact hj
    · cases hj
  have hik : i + k = n1 := by omega
  have hgr := fun ty => Lib.run_append_grow_zeros (P := Tryz.prog) w 22 3 ty 9 i0 _ .i64 .i64 Tryz.underlying22 Tryz.underlying3 hi0 hz0 (some ⟨g, 0, none⟩) i c O hold k (by omega) (by rw [hz1]; decide) (by omega) (by omega) (by rw [hz2]; omega)
    (by rw [hz2]; exact growslice_fits (by omega) (by omega))
  rw [hik] at hgr
  obtain ⟨cap, hcap, hc1, hc2⟩ : ∃ cap, cap = grownCap w n1 c 9 ∧ n1 ≤ cap ∧ cap ≤ maxLen := ⟨_, rfl, grownCap_ge .., grownCap_le_maxLen _ _ _ _ (by unfold maxLen; omega)⟩
  rw [← hcap] at hgr
  obtain ⟨Z, hZ⟩ : ∃ Z : Array Value, Z = O.toArray ++ Builtin.zeroCells (Value.string ByteArray.empty).cells k ++ Builtin.zeroCells (Value.string ByteArray.empty).cells (cap - n1) := ⟨_, rfl⟩
  have hZt : ∀ u ∈ Z.toList, anyV 0 u := by
    have hz1 : ∀ (m : Nat) (u : Value), u ∈ (Builtin.zeroCells (Value.string ByteArray.empty).cells m).toList → anyV 0 u := fun m u hu => by
      obtain ⟨j, hj⟩ := List.mem_iff_getElem?.1 hu
      exact mod_zeros (zero_any) m j u (by simpa using hj)
    intro u hu
    rw [hZ, Array.toList_append, Array.toList_append] at hu
    rcases List.mem_append.1 hu with hu | hu
    · rcases List.mem_append.1 hu with hu | hu
      · rw [hO] at hu
        exact htc u (List.mem_of_mem_take hu)
      · exact hz1 _ u hu
    · exact hz1 _ u hu
  have hZs : Z.size = cap := by
    rw [hZ, Array.size_append, Array.size_append, size_zeroCells, size_zeroCells]
    have : (Value.string ByteArray.empty).cells.size = 1 := rfl
    rw [this, List.size_toArray, hOl]; omega
  rw [← hZ] at hgr
  have hZO : Z.toList.take i = O := by
    rw [hZ, Array.append_assoc, Array.toList_append, List.take_append_of_le_length (by simp; omega), List.take_of_length_le (by simp; omega)]
  obtain ⟨gN, hgN⟩ : ∃ gN, gN = w.heap.size := ⟨_, rfl⟩
  rw [← hgN] at hgr
  obtain ⟨W0, hW0⟩ : ∃ W0, W0 = w.drew.alloc (.cells Z 9) := ⟨_, rfl⟩
  have hg0 : W0.heap[gN]? = some (.cells Z.toList.toArray 9 (0, 0)) := by rw [hW0, hgN, Array.toArray_toList]; exact heap_alloc_new w.drew _
  have hb0 : Below base w W0 := by rw [hW0]; exact (Below.refl base w).drew.alloc hbase _
  have hgl : g < w.heap.size := (Array.getElem?_eq_some_iff.1 hg).1
  have hgo : W0.heap[g]? = some (.cells cur.toArray 9 (0, 0)) := by rw [hW0]; exact (Below.heap_alloc w.drew _ g hgl).trans hg
  have hvo : W0.heap[gv]? = some (.cells vs.toArray 9 (0, 0)) := by rw [hW0]; exact (Below.heap_alloc w.drew _ gv hv.lt).trans hv
  have hvl0 := hv.lt
  rw [← hW0] at hgr
  obtain ⟨Y1, hY1⟩ : ∃ Y1, Y1 = splice Z.toList i vs := ⟨_, rfl⟩
  obtain ⟨Y2, hY2⟩ : ∃ Y2, Y2 = splice Y1 i1 T := ⟨_, rfl⟩
  have hZl : Z.toList.length = cap := by simpa using hZs
  have hY1l : Y1.length = cap := by rw [hY1, splice_lenK _ _ _ (by omega), hZl]
  have hY2l : Y2.length = cap := by rw [hY2, splice_lenK _ _ _ (by omega), hY1l]
  have hfin : Y2.take (n1) = cur.take i ++ (vs ++ T) := by
    have := spliceAK Z.toList i vs T (by omega)
    rw [hvl, hTl, show i + 1 + (c - i) = n1 by omega, ← hi1, ← hY1, ← hY2, hZO, hO] at this
    exact this
  rw [← hT, ← hfin]
  obtain ⟨W1, hW1⟩ : ∃ W1, W1 = W0.setRow gN Y1.toArray := ⟨_, rfl⟩
  have hg1 : W1.heap[gN]? = some (.cells Y1.toArray 9 (0, 0)) := by rw [hW1]; exact setRow_heap W0 gN _ _ _ _ hg0
  have hcp1 : ∀ ty dc, (Builtin.copy_ #[22, 22] ty #[.slice (some ⟨gN, i, none⟩) (n1 - i) dc, .slice (some ⟨gv, 0, none⟩) 1 1]).run Tryz.prog W0 = .ok (goInt (1 : Nat)) W1 := fun ty dc => by
    rw [hW1, hY1]
    refine run_copyK (P := Tryz.prog) W0 22 22 ty 9 1 gN i (n1 - i) dc ⟨gv, 0, none⟩ 1 1 1 Z.toList 9 vs Tryz.underlying22 k_size_strT hg0 (by simp only [Nat.min_def]; split <;> omega) (by omega) (fun j v hj => ?_) (by omega) o2
    rw [Addr.add_lit, Nat.zero_add, cell_of_row W0 _ _ _ _ _ hvo]
    simpa using hj
  obtain ⟨W2, hW2⟩ : ∃ W2, W2 = W1.drew.setRow gN Y2.toArray := ⟨_, rfl⟩
  have hg2 : W2.heap[gN]? = some (.cells Y2.toArray 9 (0, 0)) := by rw [hW2]; exact setRow_heap W1.drew gN _ _ _ _ hg1
  have hgo1 : W1.heap[g]? = some (.cells cur.toArray 9 (0, 0)) := by rw [hW1, setRow_other _ _ _ _ (by omega)]; exact hgo
  have hcp2 : ∀ ty dc sc, (Builtin.copy_ #[22, 22] ty #[.slice (some ⟨gN, i1, none⟩) (n1 - i1) dc, .slice (some ⟨g, i, none⟩) (c - i) sc]).run Tryz.prog W1.drew = .ok (goInt (c - i : Nat)) W2 := fun ty dc sc => by
    rw [hW2, hY2]
    have := run_copyK (P := Tryz.prog) W1.drew 22 22 ty 9 1 gN (i + 1) (n1 - i1) dc ⟨g, i, none⟩ (c - i) sc (c - i) Y1 9 T Tryz.underlying22 k_size_strT hg1 (by simp only [Nat.min_def]; split <;> omega) (by rw [hTl, Nat.mul_one])
      (fun j v hj => by rw [Addr.add_lit, cell_of_row W1.drew _ _ _ _ _ hgo1]; simpa using hTc j v hj) (by omega) oT
    rw [← hi1] at this
    exact this
  have hbgN : base ≤ gN := by omega
  have hb2 : Below base w W2 := by
    rw [hW2, hW1]
    exact below_setRow (below_setRow hb0 hbgN _).drew hbgN _
  have hTc' : ∀ v ∈ T, v ∈ cur := fun v hv => by obtain ⟨j, hj⟩ := List.mem_iff_getElem?.1 hv; exact List.mem_of_getElem? (hTc j v hj)
  have hown2 : OwnT W2 base 9 1 (anyV) (.slice (some ⟨gN, 0, none⟩) n1 cap) n1 (Y2.take (n1)) := by
    have hYt : ∀ u ∈ Y2, anyV 0 u := by rw [hY2, hY1]; exact splice_ok (splice_ok hZt ov) (fun v hv => htc v (hTc' v hv))
    have := OwnT.close (size := 1) Y2 hbgN hg2 hc1 hc2 (by rw [Nat.mul_one]; exact hY2l) (ok := anyV) (fun j u hu => by
      rw [Nat.mod_one]
      exact hYt u (List.mem_of_getElem? hu))
    rwa [Nat.mul_one] at this
  have wi : IntKind.i64.wrap ((i : Int) + 1) = (i1 : Int) := by rw [IntWalk.i64_in _ (by omega)]; omega
  have wn : IntKind.i64.wrap ((c : Int) + 1) = (n1 : Int) := by rw [IntWalk.i64_in _ (by omega)]; omega
  have wk : IntKind.i64.wrap ((n1 : Int) - i) = (k : Int) := by rw [IntWalk.i64_in _ (by omega)]; omega
  have q1 : ¬ (i : Int) = c := by omega
  have q2 : i ≤ c := by omega
  have q3 : ¬ c = i := by omega
  have q4 : i1 ≤ n1 := by omega
  have q5 : ¬ cap = i1 := by omega
  have q7 : i ≤ n1 := by omega
  have q12 : ¬ cap = i := by omega
  have q8 : decide ((c : Int) < n1) = true := decide_eq_true (by omega)
  have q9 : decide (c < n1) = true := decide_eq_true (by omega)
  have q10 : ((i : Int) == c) = false := by simp; omega
  have q11 : (i == c) = false := by simp; omega
  rw [← hn1]
  have HO := Lib.hid hown2
  have HGr : Hid (w.grownBy W2 (some g)) := by
    have h1 : Below w.heap.size w W2 := by
      rw [hW2, hW1]
      exact below_setRow (below_setRow (by rw [hW0]; exact (Below.refl _ w).drew.alloc (Nat.le_refl _) _) (Nat.le_of_eq hgN.symm) _).drew (Nat.le_of_eq hgN.symm) _
    exact ⟨h1.os, h1.tape, h1.output, h1.size, fun k hk _ => h1.block k hk⟩
  have HgN := Lib.hid hgN
  have HB := Lib.hid hb2
  have HC1 := Lib.hid hcp1
  have HC2 := Lib.hid hcp2
  have HG := Lib.hid hgr
  clear hi1 hn1 hown2 hb2 hcp1 hcp2 hgr hfin hY2 hY1 hTc hTl hT hg1 hg2 hW1 hW2 hW0 hZl hZs hZO hZ hO hold hk hik hcap hgN hgo hgo1 hvo hown htk hg hg0
  go_enter Tryz.func12, Tryz.ntmps12
  go_wp2_with (first | (at_builtin; refine Lib.wpList_append_run _ rfl (.tmp 34) (.tmp 39) 22 3 rfl (.slice (some ⟨g, 0, none⟩) i c) (.int .i64 k) rfl rfl _ _ (HG.out _) ?_) | (refine wpList_copy_run _ rfl (.tmp 43) (.tmp 44) 22 22 rfl (.slice (some ⟨gN, i, none⟩) (n1 - i) (cap - i)) (.slice (some ⟨gv, 0, none⟩) 1 1) rfl rfl (HC1.out _ _) ?_))
  go_region_law (refine step_copy_run rfl (.tmp 50) (.tmp 53) 22 22 rfl (.slice (some ⟨gN, i1, none⟩) (n1 - i1) (cap - i1)) (.slice (some ⟨g, i, none⟩) (c - i) (c - i)) (by simp [Act.eval, Act.put]) (by simp [Act.eval, Act.put]) (HC2.out _ _ _) ?_)
  all_goals
    go_wp2
    go_ret
    exact ⟨_, _, rfl, HO.out, HB.out, HGr.out, .inr (by rw [← HgN.out]; rfl)⟩
theorem insertStr_any (base : Nat) (A : Option Addr) (n c i : Nat) (xs : List ByteArray) (gv : Nat) (x : ByteArray) (w : World)
    (hown : OwnT w base 9 1 (anyV) (.slice A n c) n (xs.map .string)) (hbase : base ≤ w.heap.size) (hi : i ≤ n) (hn : n ≤ 1000)
    (hv : Blk w gv 9 #[.string x]) (hne : (Value.slice A n c).ownBlock ≠ some gv) :
    Calls Tryz.prog 12 #[.slice A n c, .int .i64 i, .slice (some ⟨gv, 0, none⟩) 1 1] w fun e w' => ∃ A' c', e = .returned (.slice A' (n + 1) c') ∧ OwnT w' base 9 1 (anyV) (.slice A' (n + 1) c') (n + 1) ((xs.take i ++ x :: xs.drop i).map .string) ∧ Below base w w' ∧ w.grownBy w' (Value.slice A n c).ownBlock ∧ ((Value.slice A' (n + 1) c').ownBlock = (Value.slice A n c).ownBlock ∨ (Value.slice A' (n + 1) c').ownBlock = some w.heap.size) := by
  have hxl : xs.length = n := by have := hown.1.1; simpa using this
  have ov : ∀ u ∈ [Value.string x], anyV 0 u := fun u hu => by rw [List.mem_singleton] at hu; trivial
  have o2 : ∀ u ∈ [Value.string x], u.oneCell' = true := fun u hu => by rw [List.mem_singleton] at hu; rw [hu]; rfl
  have o1 := strs_one xs
  have e1 : (xs.take i ++ x :: xs.drop i).map Value.string = (xs.map Value.string).take i ++ ([Value.string x] ++ (xs.map Value.string).drop i) := by
    rw [List.map_append, List.map_cons, List.map_take, List.map_drop]; rfl
  rw [e1]
  by_cases hin : i = n
  · subst hin
    rw [List.take_of_length_le (by rw [List.length_map]; omega), List.drop_of_length_le (by rw [List.length_map]; omega), List.append_nil]
    exact insertStr_end base A i c _ gv [.string x] w hown hbase hn hv o2 rfl ov
  · obtain ⟨g, rfl⟩ : ∃ g, A = some ⟨g, 0, none⟩ := by
      rcases hown.1.2 with ⟨h2, h3⟩ | ⟨g, cap, cur, hv, -⟩
      · omega
      · injection hv with h1 h2 h3; exact ⟨g, h1⟩
    by_cases hr : n + 1 ≤ c
    · exact insertStr_in base g n c i _ gv [.string x] w hown (by omega) hr hn hv (fun h => hne (by rw [h]; rfl)) o1 o2 rfl ov
    · exact insertStr_grow base g n c i _ gv [.string x] w hown hbase (by omega) (by omega) hn hv o1 o2 rfl ov
end Go.Proofs.YtfikonmhbhcejaaGreatDoor
