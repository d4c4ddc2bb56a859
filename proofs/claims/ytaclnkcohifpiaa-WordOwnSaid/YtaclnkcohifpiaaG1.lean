/-
  Texts joined: Mem OwnBase FillT HeadDefs Arena Map Arena2 GapDefs GapFits Bits Head Spots.
-/
import Derived.Lib.AppendZerosOnto
import Derived.Lib.Overlaps
import Derived.Laws.CopyOwn
import Derived.WalkKit
import Derived.Maps.OwnSet
import Derived.Maps.OwnOps
import Derived.Test.YtaclnkcohifpiaaRows
import Derived.Test.YtaclnkcohifpiaaG0
namespace Go.Proofs.Ytaclnkcohifpiaa
open Go.RowKit
variable {P : Program}
theorem run_firstK (w : World) (k n : Nat) (ad : Addr) (a c : Nat) (cs : List Value) (hn : cs.length = n * k) (hsrc : ∀ j v, cs[j]? = some v → w.cell? (ad.add j) = some v) :
    (Builtin.firstCells k n (.slice (some ad) a c)).run P w = .ok cs.toArray w := by
  have := run_loadCells_list (P := P) w ad cs hsrc
  simp [Builtin.firstCells, ← hn, this]
theorem run_copyK (w : World) (dT sT ty elem : TypeId) (k g off dLen dCap : Nat) (ad : Addr) (sLen sCap m : Nat) (cur : List Value) (t : TypeId) (cs : List Value)
    (hu : P.underlying dT = some (.slice elem)) (hs : (P.info? elem).map (·.size) = some k) (hg : w.heap[g]? = some (.cells cur.toArray t (0, 0))) (hm : Nat.min sLen dLen = m) (hn : cs.length = m * k)
    (hsrc : ∀ j v, cs[j]? = some v → w.cell? (ad.add j) = some v) (hfit : off + cs.length ≤ cur.length) (h1 : ∀ v ∈ cs, v.oneCell' = true) :
    (Builtin.copy_ #[dT, sT] ty #[.slice (some ⟨g, off, none⟩) dLen dCap, .slice (some ad) sLen sCap]).run P w = .ok (goInt m) (w.setRow g (splice cur off cs).toArray) := by
  have hl := run_loadCells_list (P := P) w ad cs hsrc
  have hst := run_storeCells_at P g off t cs 0 cur.toArray w hg (by simpa using hfit) h1
  cases hq : P.info? elem with
  | none => simp [hq] at hs
  | some i =>
    have hi : i.size = k := by simpa [hq] using hs
    simp [Builtin.copy_, run_underlying hu, Builtin.lenOf, Builtin.firstCells, sizeOf, typeInfo, hq, hi, hm, ← hn, hl, hst, splice]
theorem run_appendK (w : World) (t ty elem : TypeId) (k g sLen sCap : Nat) (ad : Addr) (m c : Nat) (cur : List Value) (tt : TypeId) (cs : List Value)
    (hu : P.underlying t = some (.slice elem)) (hs : (P.info? elem).map (·.size) = some k) (hg : w.heap[g]? = some (.cells cur.toArray tt (0, 0))) (hn : cs.length = m * k)
    (hsrc : ∀ j v, cs[j]? = some v → w.cell? (ad.add j) = some v) (hroom : sLen + m ≤ sCap) (hfit : sLen * k + cs.length ≤ cur.length) (h1 : ∀ v ∈ cs, v.oneCell' = true) :
    (Builtin.append_ #[t, t] ty #[.slice (some ⟨g, 0, none⟩) sLen sCap, .slice (some ad) m c]).run P w = .ok (.slice (some ⟨g, 0, none⟩) (sLen + m) sCap) (w.setRow g (splice cur (sLen * k) cs).toArray) := by
  have hl := run_loadCells_list (P := P) w ad cs hsrc
  have hst := run_storeCells_at P g (sLen * k) tt cs 0 cur.toArray w hg (by simpa using hfit) h1
  cases hq : P.info? elem with
  | none => simp [hq] at hs
  | some i =>
    have hi : i.size = k := by simpa [hq] using hs
    simp [Builtin.append_, run_underlying hu, Builtin.lenOf, Builtin.firstCells, sizeOf, typeInfo, hq, hi, hroom, ← hn, hl, hst, splice, Addr.add_lit]
theorem run_clearK (w : World) (t ty elem : TypeId) (_ g off n c : Nat) (cur : List Value) (tt : TypeId) (z : Value) (cs : List Value)
    (hu : P.underlying t = some (.slice elem)) (hz : (P.info? elem).map (·.zero) = some (some z)) (hcs : (Builtin.zeroCells z.cells n).toList = cs) (hg : w.heap[g]? = some (.cells cur.toArray tt (0, 0))) (h0 : 0 < n)
    (hfit : off + cs.length ≤ cur.length) (h1 : ∀ v ∈ cs, v.oneCell' = true) :
    (Builtin.clear_ #[t] ty #[.slice (some ⟨g, off, none⟩) n c]).run P w = .ok (.tuple #[]) (w.setRow g (splice cur off cs).toArray) := by
  have hst := run_storeCells_at P g off tt cs 0 cur.toArray w hg (by simpa using hfit) h1
  cases hq : P.info? elem with
  | none => simp [hq] at hz
  | some i =>
    have hi : i.zero = some z := by simpa [hq] using hz
    obtain ⟨m, rfl⟩ : ∃ m, n = m + 1 := ⟨n - 1, by omega⟩
    simp [Builtin.clear_, run_underlying hu, zeroValue, typeInfo, hq, hi, hcs, hst, splice]
theorem wpList_copy_run (w : World) {ops : Array Oper} {rest : List Oper} {o : Oper} {a : Act} {Q : Exit → Act → World → Prop} (hgd : o.guard = none) (d s : Operand) (t t' : TypeId)
    (ho : o.op = .call { callee := .builtin .copy, args := #[d, s], argTypes := #[t, t'] }) (v u : Value) (hd : a.eval d = v) (hs : a.eval s = u) {v' : Value} {w' : World}
    (hr : (Builtin.copy_ #[t, t'] o.type #[v, u]).run P w = .ok v' w') (h : wpList P ops Q rest (a.put o.dst v') w') : wpList P ops Q (o :: rest) a w :=
  wpList_plain hgd fun K hK => by
    unfold Oper.wp execOp
    simp only [ho, resolve, invoke, builtin, Sem.run_bind, Sem.run_pure, Result.andThen_ok, List.map_toArray, List.map_cons, List.map_nil, hd, hs, hr]
    exact hK _ _ h
theorem step_copy_run {ops : Array Oper} {o : Oper} {a : Act} {w : World} {K : Act → World → Prop} {Q : Exit → Act → World → Prop} {E : Prop}
    (hg : o.guard = none) (d x : Operand) (dT sT : TypeId) (hop : o.op = Op.call { callee := Callee.builtin Builtin.copy, args := #[d, x], argTypes := #[dT, sT] })
    (v u : Value) (hd : a.eval d = v) (hx : a.eval x = u) {v' : Value} {w' : World} (hr : (Builtin.copy_ #[dT, sT] o.type #[v, u]).run P w = .ok v' w') (hK : K (a.put o.dst v') w') :
    if Region.wanted o (yielded ops a.tmps) = true then Oper.wp P o a w K Q else E := by
  have hw : Region.wanted o (yielded ops a.tmps) = true := by simp [Region.wanted, hg]
  rw [if_pos hw]
  unfold Oper.wp
  simp [execOp, hop, resolve, invoke, builtin, hd, hx, hr, Result.andThen]
  exact hK
theorem step_append_run {ops : Array Oper} {o : Oper} {a : Act} {w : World} {K : Act → World → Prop} {Q : Exit → Act → World → Prop} {E : Prop}
    (hg : o.guard = none) (d x : Operand) (dT sT : TypeId) (hop : o.op = Op.call { callee := Callee.builtin Builtin.append, args := #[d, x], argTypes := #[dT, sT] })
    (v u : Value) (hd : a.eval d = v) (hx : a.eval x = u) {v' : Value} {w' : World} (hr : (Builtin.append_ #[dT, sT] o.type #[v, u]).run P w = .ok v' w') (hK : K (a.put o.dst v') w') :
    if Region.wanted o (yielded ops a.tmps) = true then Oper.wp P o a w K Q else E := by
  have hw : Region.wanted o (yielded ops a.tmps) = true := by simp [Region.wanted, hg]
  rw [if_pos hw]
  unfold Oper.wp
  simp [execOp, hop, resolve, invoke, builtin, hd, hx, hr, Result.andThen]
  exact hK
theorem wpList_clear_run (w : World) {ops : Array Oper} {rest : List Oper} {o : Oper} {a : Act} {Q : Exit → Act → World → Prop} (hgd : o.guard = none) (d : Operand) (t : TypeId)
    (ho : o.op = .call { callee := .builtin .clear, args := #[d], argTypes := #[t] }) (v : Value) (hd : a.eval d = v) {v' : Value} {w' : World}
    (hr : (Builtin.clear_ #[t] o.type #[v]).run P w = .ok v' w') (h : wpList P ops Q rest (a.put o.dst v') w') : wpList P ops Q (o :: rest) a w :=
  wpList_plain hgd fun K hK => by
    unfold Oper.wp execOp
    simp only [ho, resolve, invoke, builtin, Sem.run_bind, Sem.run_pure, Result.andThen_ok, List.map_toArray, List.map_cons, List.map_nil, hd, hr]
    exact hK _ _ h
end Go.Proofs.Ytaclnkcohifpiaa

namespace Go.Proofs.Ytaclnkcohifpiaa
open Go.RowKit
theorem own_u64_ok {w : World} {base n : Nat} {v : Value} {a : List Int} (h : OwnT w base 25 1 (isNum .u64) v n (a.map (.int .u64))) : ∀ x ∈ a, (Lit.int .u64 x).wf = true := by
  intro x hx
  obtain ⟨j, hj⟩ := List.mem_iff_getElem?.1 hx
  obtain ⟨y, e, hy⟩ := h.elems j (.int .u64 x) (by rw [List.getElem?_map, hj]; rfl)
  injection e with _ e
  rw [e]; exact hy
theorem own_i64_ok {w : World} {base n : Nat} {v : Value} {a : List Int} (h : OwnT w base 3 1 (isNum .i64) v n (a.map (.int .i64))) : ∀ x ∈ a, (Lit.int .i64 x).wf = true := by
  intro x hx
  obtain ⟨j, hj⟩ := List.mem_iff_getElem?.1 hx
  obtain ⟨y, e, hy⟩ := h.elems j (.int .i64 x) (by rw [List.getElem?_map, hj]; rfl)
  injection e with _ e
  rw [e]; exact hy
theorem OwnT.apart {w : World} {base : Nat} {e : TypeId} {size : Nat} {ok : Nat → Value → Prop} {v : Value} {n : Nat} {xs : List Value} (h : OwnT w base e size ok v n xs) {p : Addr} (hp : v.ownBlock ≠ some p.block) (u : Value) : OwnT (w.setCell p u) base e size ok v n xs :=
  ⟨own_apart h.1 hp u, fun g cur hg hc => h.2 g cur hg (by rw [← hc]; exact (Below.heap_setCell w p u g (fun e => hp (by rw [hg, e]))).symm)⟩
theorem OwnT.setElem {w : World} {base : Nat} {e : TypeId} {ok : Nat → Value → Prop} {q n c i : Nat} {xs : List Value} (h : OwnT w base e 1 ok (.slice (some ⟨q, 0, none⟩) n c) n xs) (hi : i < n) {u : Value} (hu : ok 0 u) :
    OwnT (w.setCell ⟨q, i, none⟩ u) base e 1 ok (.slice (some ⟨q, 0, none⟩) n c) n (xs.set i u) ∧ (∃ v, w.cell? ⟨q, i, none⟩ = some v) ∧ w.frozen? ⟨q, i, none⟩ = false := by
  obtain ⟨cur, h1, h2, h3, h4, h5, h6, h7⟩ := h.open
  have hB : Blk w q e cur.toArray := h2
  have hs := hB.set_ i u
  rw [List.setIfInBounds_toArray] at hs
  have hi2 : i < cur.length := by omega
  refine ⟨?_, ⟨cur[i], by rw [hB.cell]; simp [hi2]⟩, hB.frozen i⟩
  have := OwnT.close (w := w.setCell ⟨q, i, none⟩ u) (n := n) (c := c) (size := 1) (ok := ok) (cur.set i u) h1 hs h3 h4 (by rw [List.length_set]; exact h5) (fun j v hj => by
    by_cases hji : i = j
    · subst hji
      rw [List.getElem?_set_self hi2] at hj
      injection hj with hj
      rw [Nat.mod_one, ← hj]
      exact hu
    · rw [List.getElem?_set_ne hji] at hj
      exact h7 j v hj)
  rw [List.take_set, h6] at this
  exact this
theorem own_ptr {w : World} {base n c size : Nat} {e : TypeId} {A : Option Addr} {xs : List Value} (h : w.ownsRow base e size (.slice A n c) n xs) (hn : 0 < n) : ∃ q, A = some ⟨q, 0, none⟩ ∧ base ≤ q := by
  rcases h.2 with ⟨h1, h2⟩ | ⟨q, cap, cur, h1, h2, -⟩
  · omega
  · injection h1 with h1
    exact ⟨q, h1, h2⟩
theorem splice_ok {p : Value → Prop} {Z : List Value} {I : Nat} {vs : List Value} (h1 : ∀ u ∈ Z, p u) (h2 : ∀ u ∈ vs, p u) : ∀ u ∈ splice Z I vs, p u := by
  intro u hu
  unfold splice at hu
  rcases List.mem_append.1 hu with hu | hu
  · exact h1 u (List.mem_of_mem_take hu)
  · rcases List.mem_append.1 hu with hu | hu
    · exact h2 u hu
    · exact h1 u (List.mem_of_mem_drop hu)
set_option maxHeartbeats 400000 in
theorem clone_u64T (A : Option Addr) (n c B : Nat) (xs : List Value) (w : World) (hr : Reads w B 1 A n xs) (hB : B ≤ w.heap.size) (h1 : ∀ u ∈ xs, u.oneCell' = true) (hno : ∀ j u, xs[j]? = some u → isNum .u64 (j % 1) u) (hn : n * 8 ≤ 140737488355328) :
    Calls Try.prog 6 #[.slice A n c] w fun e w' => ∃ A' c', e = .returned (.slice A' n c') ∧ OwnT w' w.heap.size 25 1 (isNum .u64) (.slice A' n c') n xs ∧ Below w.heap.size w w' := by
  obtain ⟨i0, hi, hz0, hz1, hz2⟩ := info_parts info_u64
  rcases A with _ | ad
  · have hm : n = 0 := by
      rcases Nat.eq_zero_or_pos n with h0 | h0
      · exact h0
      · obtain ⟨ad, h, _⟩ := hr.2 h0
        cases h
    subst hm
    have hx : xs = [] := List.eq_nil_of_length_eq_zero (by simpa using hr.1)
    subst hx
    have hnil := fun (w : World) => Lib.run_eql_slice_nil (P := Try.prog) w 22 25 none 0 c 0 0 Try.underlying22
    go_enter Try.func6, Try.ntmps6
    go_wp2
    go_ret
    exact ⟨none, 0, rfl, OwnT.nil _ _ _ _ _, Below.refl _ _⟩
  · have hnil := fun (w : World) => Lib.run_eql_slice_nil (P := Try.prog) w 22 25 (some ad) n c 0 0 Try.underlying22
    have hmade : OwnT (w.alloc (.cells #[] 25)) w.heap.size 25 1 (isNum .u64) (.slice (some ⟨w.heap.size, 0, none⟩) 0 0) 0 [] := OwnT.close (w := w.alloc (.cells #[] 25)) (n := 0) (c := 0) (size := 1) [] (Nat.le_refl _) (heap_alloc_new w _) (Nat.le_refl _) (by decide) rfl (by simp)
    go_enter Try.func6, Try.ntmps6
    go_wp2_with (at_builtin; refine wpList_append_T _ rfl (.tmp 5) (.tmp 6) 22 rfl w.heap.size 25 i0 (.int .u64 0) 1 8 Try.underlying22 hi hz0 hz1 hz2 rfl (by decide) (zero_num .u64 rfl) (.slice (some ⟨w.heap.size, 0, none⟩) 0 0) 0 [] rfl hmade B (some ad) n c xs rfl (hr.alloc hB _) h1 hno (by simp [maxLen]; omega) (by simpa using hn) (by simp) ?_; rintro v' w1 hown hgr hbl -; obtain ⟨A', c', rfl⟩ := own_slice hown.1)
    go_ret
    exact ⟨A', c', rfl, by simpa using hown, ((Below.refl _ _).alloc (Nat.le_refl _) _).grown hgr (by simp) (by simp [Value.ownBlock])⟩
end Go.Proofs.Ytaclnkcohifpiaa

namespace Go.Proofs.Ytaclnkcohifpiaa
open Go.RowKit
set_option maxHeartbeats 400000 in
theorem fill_okT (A : Option Addr) (n c B : Nat) (xs : List Int) (at_ k v : Int) (w : World) (hr : Reads w B 1 A n (xs.map (.int .u64))) (hB : B ≤ w.heap.size) (hok : fillE n at_ k = 0) (hxs : ∀ x ∈ xs, (Lit.int .u64 x).wf = true) (hv : (Lit.int .u64 v).wf = true) :
    Calls Try.prog 8 #[.slice A n c, .int .i64 at_, .int .i64 k, .int .u64 v] w fun e w' => Below w.heap.size w w' ∧
      ∃ A' c', e = .returned (.tuple #[.slice A' n c', .int .i64 0]) ∧ OwnT w' w.heap.size 25 1 (isNum .u64) (.slice A' n c') n ((fillL xs at_.toNat k.toNat v).map (.int .u64)) := by
  obtain ⟨h1, h2, h3, h4, h5⟩ := fillE_ok.1 hok
  have hS : stretchF n k [at_] = 0 := by unfold fillE at hok; rwa [if_neg (by omega)] at hok
  have HS := Lib.hid hS
  clear hok hS
  obtain ⟨at0, rfl⟩ := Int.eq_ofNat_of_zero_le h3
  obtain ⟨k0, rfl⟩ := Int.eq_ofNat_of_zero_le h2
  have hxl : xs.length = n := by have := hr.1; simpa using this
  have HX := Lib.hid hxl
  have HXS := Lib.hid hxs
  have HV := Lib.hid hv
  clear hxl hxs hv
  go_enter Try.func8, Try.ntmps8
  go_wp2_with (first
    | (go_at_call 23; refine (stretches_any _ _ _ _ _ _ 1 _ [↑at0] _ (by omega) (by omega) (reads_new w [.int .i64 at0] 3 1 1 rfl) (by omega) (by simp; omega)).mono ?_; rw [HS.out]; rintro e w' ⟨rfl, rfl⟩)
    | (go_at_call 6; refine (clone_u64T _ _ _ _ _ _ (hr.alloc hB _) (by simp; omega) (u64s_one _) (nums_num HXS.out 1) (by omega)).mono ?_; rintro e w1 ⟨A', c', rfl, hown, hb⟩))
  go_loopw [24] (fun i wr => ∃ j : Nat, j ≤ k0 ∧ i = .int .i64 j ∧ OwnT wr w.heap.size 25 1 (isNum .u64) (.slice A' n c') n ((fillL xs at0 j v).map (.int .u64)) ∧ Below w.heap.size w wr) (fun i _ => k0 - (intOf i).toNat)
  case atStart => exact ⟨0, Nat.zero_le _, rfl, by rw [fillL_zero]; exact (hown.mono (by simp)), ((Below.refl _ _).alloc (Nat.le_refl _) _).trans (hb.mono (by simp))⟩
  case round =>
    obtain ⟨j, hj, rfl, hown1, hb1⟩ := hrel
    by_cases hlt : j < k0
    · obtain ⟨g, cap, hv, hg, -⟩ := hown1.1.form (by omega)
      obtain ⟨rfl, -, rfl⟩ : A' = some ⟨g, 0, none⟩ ∧ n = n ∧ c' = cap := by simpa using hv
      have hcell := hown1.1.cellAt (at0 + j) (by omega)
      have hfl := fillL_length xs at0 j v (by rw [HX.out]; omega)
      rw [List.getElem?_eq_getElem (by simp [hfl, HX.out]; omega)] at hcell
      generalize ((fillL xs at0 j v).map (Value.int .u64))[at0 + j]'_ = u0 at hcell
      have hfr := hown1.1.frozenAt (at0 + j)
      clear hfl
      go_wp2
      go_roundw
      case rel => exact ⟨j + 1, by omega, by go_num, by rw [← fillL_succ _ _ _ _ (by rw [HX.out]; omega), List.map_set]; exact (hown1.setElem (i := at0 + j) (u := .int .u64 v) (by omega) ⟨v, rfl, HV.out⟩).1, hb1.setCell (p := ⟨g, at0 + j, none⟩) (hown1.1.lt g rfl).1 _⟩
      case measure => simp [intOf]; omega
    · have hjk : j = k0 := by omega
      subst hjk
      go_wp2
      go_ret2
      exact ⟨hb1, A', c', rfl, hown1⟩
end Go.Proofs.Ytaclnkcohifpiaa

namespace Go.Proofs.Ytaclnkcohifpiaa
open Go.RowKit
def hv (r b t : Int) (f : Bool) : Value := .agg #[.int .i64 r, .int .i64 b, .int .i64 t, .bool f]
def headE (r b t : Int) (f : Bool) : Int :=
  if r < 0 ∨ b < 0 ∨ t < 0 ∨ 256 < r ∨ 256 < b ∨ 65535 < t then 4
  else if f = true ∧ (0 < r ∨ 0 < t) then 3
  else if 256 < 1 + r + b then 2 else 0
def wordOf (r b t : Int) (f : Bool) : Int := r + b * 65536 + t * 4294967296 + (if f then 281474976710656 else 0)
theorem headE_ok {r b t : Int} {f : Bool} : headE r b t f = 0 ↔ (0 ≤ r ∧ r ≤ 256 ∧ 0 ≤ b ∧ b ≤ 256 ∧ 0 ≤ t ∧ t ≤ 65535 ∧ 1 + r + b ≤ 256 ∧ (f = true → r = 0 ∧ t = 0)) := by
  unfold headE
  constructor
  · intro h
    split at h
    · cases h
    · split at h
      · cases h
      · split at h
        · cases h
        · rename_i a b' c
          exact ⟨by omega, by omega, by omega, by omega, by omega, by omega, by omega, fun hf => by
            subst hf
            simp at b'
            omega⟩
  · rintro ⟨h1, h2, h3, h4, h5, h6, h7, h8⟩
    rw [if_neg (by omega), if_neg (by rintro ⟨hf, h⟩; have := h8 hf; omega), if_neg (by omega)]
theorem headE_cases (r b t : Int) (f : Bool) : headE r b t f = 0 ∨ headE r b t f = 2 ∨ headE r b t f = 3 ∨ headE r b t f = 4 := by
  unfold headE
  split
  · simp
  · split
    · simp
    · split <;> simp
def rdR (v : Int) : Int := v % 65536
def rdB (v : Int) : Int := v / 65536 % 65536
def rdT (v : Int) : Int := v / 4294967296 % 65536
def rdF (v : Int) : Bool := decide (v / 281474976710656 % 2 = 1)
def readOk (v : Int) : Prop := v / 562949953421312 = 0 ∧ headE (rdR v) (rdB v) (rdT v) (rdF v) = 0
instance readOkDec (v : Int) : Decidable (readOk v) := by unfold readOk; infer_instance
end Go.Proofs.Ytaclnkcohifpiaa

namespace Go.Proofs.Ytaclnkcohifpiaa
open Go.RowKit
structure Spot where
  loc : Int
  r : Int
  b : Int
  t : Int
  f : Bool
deriving DecidableEq
def Spot.long (s : Spot) : Int := 1 + s.r + s.b
def spotC (s : Spot) : List Value := [.int .i64 s.loc, .int .i64 s.r, .int .i64 s.b, .int .i64 s.t, .bool s.f]
def spotsC (l : List Spot) : List Value := l.flatMap spotC
def spotOf (i : Nat) (v : Int) : Spot := ⟨i, rdR v, rdB v, rdT v, rdF v⟩
def hlen (v : Int) : Nat := (1 + rdR v + rdB v).toNat
def spotsGo (a : List Int) : Nat → Nat → Option (List Spot)
  | 0, _ => some []
  | n + 1, i => if a.length ≤ i then some [] else
    if readOk (a.getD i 0) ∧ i + hlen (a.getD i 0) ≤ a.length then (spotsGo a n (i + hlen (a.getD i 0))).map (spotOf i (a.getD i 0) :: ·) else none
def spotsAt (a : List Int) (i : Nat) : Option (List Spot) := spotsGo a (a.length - i) i
theorem hlen_pos {v : Int} (h : readOk v) : 1 ≤ hlen v := by
  have := headE_ok.1 h.2
  unfold hlen; omega
theorem spotsGo_fuel (a : List Int) : ∀ (n m i : Nat), a.length - i ≤ n → a.length - i ≤ m → spotsGo a n i = spotsGo a m i := by
  intro n
  induction n with
  | zero =>
    intro m i h1 h2
    cases m with
    | zero => rfl
    | succ m => simp only [spotsGo]; rw [if_pos (by omega)]
  | succ n ih =>
    intro m i h1 h2
    cases m with
    | zero => simp only [spotsGo]; rw [if_pos (by omega)]
    | succ m =>
      simp only [spotsGo]
      split
      · rfl
      · split
        · rename_i h
          have := hlen_pos h.1
          rw [ih m _ (by omega) (by omega)]
        · rfl
theorem spotsAt_end {a : List Int} {i : Nat} (h : a.length ≤ i) : spotsAt a i = some [] := by
  unfold spotsAt
  rw [show a.length - i = 0 by omega]
  rfl
theorem spotsAt_step {a : List Int} {i : Nat} (h : i < a.length) (h1 : readOk (a.getD i 0)) (h2 : i + hlen (a.getD i 0) ≤ a.length) :
    spotsAt a i = (spotsAt a (i + hlen (a.getD i 0))).map (spotOf i (a.getD i 0) :: ·) := by
  have := hlen_pos h1
  unfold spotsAt
  rw [show a.length - i = (a.length - i - 1) + 1 by omega]
  simp only [spotsGo]
  rw [if_neg (by omega), if_pos ⟨h1, h2⟩, spotsGo_fuel a _ (a.length - (i + hlen (a.getD i 0))) _ (by omega) (by omega)]
theorem spotsAt_bad {a : List Int} {i : Nat} (h : i < a.length) (h1 : ¬ (readOk (a.getD i 0) ∧ i + hlen (a.getD i 0) ≤ a.length)) : spotsAt a i = none := by
  unfold spotsAt
  rw [show a.length - i = (a.length - i - 1) + 1 by omega]
  simp only [spotsGo]
  rw [if_neg (by omega), if_neg h1]
def spotsE (a : List Int) : Int := if 256 < a.length then 2 else if spotsAt a 0 = none then 3 else 0
def spotsL (a : List Int) : List Spot := if 256 < a.length then [] else (spotsAt a 0).getD []
def Parse (a : List Int) : Nat → List Spot → Prop
  | i, [] => i = a.length
  | i, s :: l => i < a.length ∧ readOk (a.getD i 0) ∧ s = spotOf i (a.getD i 0) ∧ i + hlen (a.getD i 0) ≤ a.length ∧ Parse a (i + hlen (a.getD i 0)) l
theorem parse_of (a : List Int) : ∀ (n i : Nat) (l : List Spot), a.length - i ≤ n → i ≤ a.length → spotsAt a i = some l → Parse a i l := by
  intro n
  induction n with
  | zero =>
    intro i l h1 h2 h
    have hi : i = a.length := by omega
    subst hi
    rw [spotsAt_end (Nat.le_refl _)] at h
    obtain rfl := Option.some.inj h
    rfl
  | succ n ih =>
    intro i l h1 h2 h
    by_cases hi : i < a.length
    · by_cases hok : readOk (a.getD i 0) ∧ i + hlen (a.getD i 0) ≤ a.length
      · rw [spotsAt_step hi hok.1 hok.2] at h
        obtain ⟨l', h', rfl⟩ := Option.map_eq_some_iff.1 h
        have := hlen_pos hok.1
        exact ⟨hi, hok.1, rfl, hok.2, ih _ _ (by omega) hok.2 h'⟩
      · rw [spotsAt_bad hi hok] at h
        cases h
    · rw [spotsAt_end (by omega)] at h
      obtain rfl := Option.some.inj h
      show i = a.length
      omega
theorem parse_ok {a : List Int} (h : spotsE a = 0) : a.length ≤ 256 ∧ Parse a 0 (spotsL a) := by
  unfold spotsE at h
  split at h
  · cases h
  · rename_i hl
    split at h
    · cases h
    · rename_i hn
      refine ⟨by omega, ?_⟩
      unfold spotsL
      rw [if_neg hl]
      cases hs : spotsAt a 0 with
      | none => exact absurd hs hn
      | some l => exact parse_of a _ 0 l (Nat.le_refl _) (Nat.zero_le _) hs
theorem spotsAt_parse (a : List Int) : ∀ (l : List Spot) (i : Nat), Parse a i l → spotsAt a i = some l := by
  intro l
  induction l with
  | nil => intro i h; exact spotsAt_end (by have : i = a.length := h; omega)
  | cons s l ih =>
    rintro i ⟨h1, h2, rfl, h4, h5⟩
    rw [spotsAt_step h1 h2 h4, ih _ h5]
    rfl
theorem spotsE_cases (a : List Int) : spotsE a = 0 ∨ spotsE a = 2 ∨ spotsE a = 3 := by
  unfold spotsE
  split
  · exact .inr (.inl rfl)
  · split
    · exact .inr (.inr rfl)
    · exact .inl rfl
theorem spotsL_bad {a : List Int} (h : spotsE a ≠ 0) : spotsL a = [] := by
  unfold spotsE at h
  unfold spotsL
  split
  · rfl
  · rename_i hl
    rw [if_neg hl] at h
    split at h
    · rename_i hn; rw [hn]; rfl
    · exact absurd rfl h
theorem spotsC_length (l : List Spot) : (spotsC l).length = l.length * 5 := flat_length spotC 5 (fun _ => rfl) l
theorem spotsC_at (l : List Spot) (j i : Nat) (hj : j < l.length) (hi : i < 5) : (spotsC l)[j * 5 + i]? = (spotC l[j])[i]? := flat_at spotC 5 (fun _ => rfl) l j i hj hi
theorem spotsC_one (l : List Spot) : ∀ u ∈ spotsC l, u.oneCell' = true := by
  intro u hu
  obtain ⟨s, _, hs⟩ := List.mem_flatMap.1 hu
  simp only [spotC, List.mem_cons, List.not_mem_nil, or_false] at hs
  rcases hs with rfl | rfl | rfl | rfl | rfl <;> rfl
theorem spotsC_snoc (l : List Spot) (s : Spot) : spotsC (l ++ [s]) = spotsC l ++ spotC s := by simp [spotsC]
theorem Reads.elem {α : Type} {f : α → List Value} {k : Nat} {w : World} {B : Nat} {A : Option Addr} {n j : Nat} {l : List α} (hf : ∀ a, (f a).length = k) (h : Reads w B k A n (l.flatMap f)) (hk0 : 0 < k) (hj : j < n) :
    ∃ ad s, A = some ad ∧ ad.block < B ∧ l[j]? = some s ∧ w.cell? (ad.add (j * k)) = (f s)[0]? ∧ ∀ i, 0 < i → i < k → w.cell? ⟨(ad.add (j * k)).block, (ad.add (j * k)).off + i, none⟩ = (f s)[i]? := by
  have hn : l.length = n := by
    have := h.1; rw [flat_length f k hf] at this
    exact Nat.eq_of_mul_eq_mul_right hk0 this
  obtain ⟨ad, e, hb, hc⟩ := h.2 (by omega)
  refine ⟨ad, l[j], e, hb, List.getElem?_eq_getElem (by omega), ?_, fun i h0 hi => ?_⟩
  · have h1 := flat_at f k hf l j 0 (by omega) hk0
    have hl : 0 < (f (l[j]'(by omega))).length := by rw [hf]; exact hk0
    rw [List.getElem?_eq_getElem hl] at h1 ⊢
    have := hc (j * k) _ h1
    exact this
  · have h1 := flat_at f k hf l j i (by omega) hi
    have hl : i < (f (l[j]'(by omega))).length := by rw [hf]; exact hi
    rw [List.getElem?_eq_getElem hl] at h1 ⊢
    have h2 := hc (j * k + i) _ h1
    rw [← add_of_add, addr_add_pos _ _ h0] at h2
    exact h2
theorem parse_length (a : List Int) : ∀ (l : List Spot) (i : Nat), Parse a i l → i + l.length ≤ a.length := by
  intro l
  induction l with
  | nil => intro i h; have : i = a.length := h; simp; omega
  | cons s l ih =>
    rintro i ⟨h1, h2, rfl, h4, h5⟩
    have := ih _ h5
    have := hlen_pos h2
    simp only [List.length_cons]
    omega
theorem spotsL_length (a : List Int) : (spotsL a).length ≤ 256 := by
  by_cases h : spotsE a = 0
  · have := parse_length a _ _ (parse_ok h).2
    have := (parse_ok h).1
    omega
  · rw [spotsL_bad h]; simp
theorem Reads.spot {w : World} {B : Nat} {A : Option Addr} {n j : Nat} {l : List Spot} (h : Reads w B 5 A n (spotsC l)) (hj : j < n) :
    ∃ ad s, A = some ad ∧ ad.block < B ∧ l[j]? = some s ∧ w.cell? (ad.add (j * 5)) = some (.int .i64 s.loc) ∧
      w.cell? ⟨(ad.add (j * 5)).block, (ad.add (j * 5)).off + 1, none⟩ = some (.int .i64 s.r) ∧ w.cell? ⟨(ad.add (j * 5)).block, (ad.add (j * 5)).off + 2, none⟩ = some (.int .i64 s.b) ∧
      w.cell? ⟨(ad.add (j * 5)).block, (ad.add (j * 5)).off + 3, none⟩ = some (.int .i64 s.t) ∧ w.cell? ⟨(ad.add (j * 5)).block, (ad.add (j * 5)).off + 4, none⟩ = some (.bool s.f) := by
  obtain ⟨ad, s, e, hb, hs, c0, cs⟩ := Reads.elem (f := spotC) (k := 5) (fun _ => rfl) h (by decide) hj
  exact ⟨ad, s, e, hb, hs, c0, cs 1 (by decide) (by decide), cs 2 (by decide) (by decide), cs 3 (by decide) (by decide), cs 4 (by decide) (by decide)⟩
theorem drop_of_get {α : Type} {l : List α} {j : Nat} {s : α} (h : l[j]? = some s) : l.drop j = s :: l.drop (j + 1) := by
  obtain ⟨h1, rfl⟩ := List.getElem?_eq_some_iff.1 h
  exact List.drop_eq_getElem_cons h1
end Go.Proofs.Ytaclnkcohifpiaa

namespace Go.Proofs.Ytaclnkcohifpiaa
open Go.RowKit Go.Maps
def upd (f : Int → Option Value) (x : Int) (v : Value) : Int → Option Value := fun y => if y = x then some v else f y
def MapIs (w : World) (P : Program) (k : TypeId) (q : IntKind) (b n : Nat) (f : Int → Option Value) : Prop :=
  ∃ D : DataW Value, w.ownsMap P k (fun v => some (.held v, [])) b n D ∧ ∀ x, (Lit.int q x).wf = true → Maps.has D (.int q x) = (f x).isSome ∧ ∀ z, D.atKey (.int q x) (.held z) = .held ((f x).getD z)
section
variable {w : World} {P : Program} {k t e : TypeId} {q : IntKind} {b n : Nat} {f : Int → Option Value}
theorem MapIs.made (w : World) (P : Program) (k : TypeId) (q : IntKind) : MapIs (w.alloc (.map #[] 0)) P k q w.heap.size 0 (fun _ => none) :=
  ⟨.map [], World.ownsMap_made w P k _, fun _ _ => ⟨rfl, fun _ => rfl⟩⟩
theorem MapIs.lt (h : MapIs w P k q b n f) : b < w.heap.size := by obtain ⟨D, h, _⟩ := h; exact h.lt
theorem MapIs.mono (h : MapIs w P k q b n f) {n' : Nat} (hn : n ≤ n') : MapIs w P k q b n' f := by obtain ⟨D, h, h2⟩ := h; exact ⟨D, h.mono hn, h2⟩
theorem MapIs.kept {w' : World} {row : Option Nat} (h : MapIs w P k q b n f) (hg : w.grownBy w' row) (hne : some b ≠ row) : MapIs w' P k q b n f := by obtain ⟨D, h, h2⟩ := h; exact ⟨D, h.kept hg hne, h2⟩
theorem MapIs.alloc (h : MapIs w P k q b n f) (o : Obj) : MapIs (w.alloc o) P k q b n f := by obtain ⟨D, h, h2⟩ := h; exact ⟨D, h.alloc o, h2⟩
theorem MapIs.drew (h : MapIs w P k q b n f) : MapIs w.drew P k q b n f := h
theorem MapIs.drewN (h : MapIs w P k q b n f) (j : Nat) : MapIs (w.drewN j) P k q b n f := h
theorem MapIs.setCell (h : MapIs w P k q b n f) {a : Addr} (ha : b ≠ a.block) (u : Value) : MapIs (w.setCell a u) P k q b n f := by obtain ⟨D, h, h2⟩ := h; exact ⟨D, h.setCell ha u, h2⟩
theorem MapIs.below {B : Nat} {w' : World} (h : MapIs w P k q b n f) (hb : Below B w w') (hB : b < B) : MapIs w' P k q b n f := by
  obtain ⟨D, ⟨es, clock, h1, h2⟩, h3⟩ := h
  exact ⟨D, ⟨es, clock, (hb.block b hB).trans h1, h2⟩, h3⟩
theorem MapIs.congr (h : MapIs w P k q b n f) {g : Int → Option Value} (hg : ∀ x, (Lit.int q x).wf = true → f x = g x) : MapIs w P k q b n g := by
  obtain ⟨D, h1, h2⟩ := h
  exact ⟨D, h1, fun x hx => by rw [← hg x hx]; exact h2 x hx⟩
theorem MapIs.look (h : MapIs w P k q b n f) (hk : P.underlying k = some (.int q)) (ht : P.underlying t = some (.map k e)) {z : Value} (hz : (zeroValue e).run P w = .ok z w) {x : Int} (hx : (Lit.int q x).wf = true) :
    (Instr.lookup t (.map (some b)) (.int q x) false).run P w = .ok ((f x).getD z) w := by
  obtain ⟨D, h1, h2⟩ := h
  obtain ⟨v, ps, hrun, hv⟩ := h1.lookup (int_keyed hk) ht hz rfl (keyOf_int_mk hk hx)
  rw [(h2 x hx).2 z] at hv
  simp only [Option.some.injEq, Prod.mk.injEq, DataW.held.injEq] at hv
  rw [hrun, hv.1]
theorem MapIs.look_ok (h : MapIs w P k q b n f) (hk : P.underlying k = some (.int q)) (ht : P.underlying t = some (.map k e)) {z : Value} (hz : (zeroValue e).run P w = .ok z w) {x : Int} (hx : (Lit.int q x).wf = true) :
    (Instr.lookup t (.map (some b)) (.int q x) true).run P w = .ok (.tuple #[(f x).getD z, .bool (f x).isSome]) w := by
  obtain ⟨D, h1, h2⟩ := h
  obtain ⟨v, ps, hrun, hv⟩ := h1.look_ok (int_keyed hk) ht hz rfl (keyOf_int_mk hk hx)
  rw [(h2 x hx).2 z] at hv
  simp only [Option.some.injEq, Prod.mk.injEq, DataW.held.injEq] at hv
  rw [hrun, hv.1, (h2 x hx).1]
theorem MapIs.store (h : MapIs w P k q b n f) (hk : P.underlying k = some (.int q)) (ht : P.underlying t = some (.map k e)) (hn : n < maxLen) {x : Int} (hx : (Lit.int q x).wf = true) (v : Value) :
    ∃ w', (Instr.mapUpdate t (.map (some b)) (.int q x) v).run P w = .ok () w' ∧ MapIs w' P k q b (n + 1) (upd f x v) ∧ w.grownBy w' (some b) := by
  obtain ⟨D, h1, h2⟩ := h
  obtain ⟨w', hrun, h3, hg⟩ := h1.update (int_keyed hk) ht hn (keyOf_int_mk hk hx) (val := v) rfl
  have hm := h1.isMap
  have hkl : WideAt.IsKeyLit (.int q x) := (int_keyed hk).key (keyOf_int_mk hk hx)
  refine ⟨w', hrun, ⟨_, h3, fun y hy => ?_⟩, hg⟩
  by_cases hyx : y = x
  · subst hyx
    refine ⟨?_, fun z => ?_⟩
    · rw [has_put_same hm hkl]; simp [upd]
    · rw [atKey_put_same hm hkl]; simp [upd]
  · have hne : (Lit.int q y) ≠ .int q x := fun e => hyx (by injection e)
    refine ⟨?_, fun z => ?_⟩
    · rw [has_put_other hne, (h2 y hy).1]; simp [upd, hyx]
    · rw [atKey_put_other hne, (h2 y hy).2 z]; simp [upd, hyx]
end
end Go.Proofs.Ytaclnkcohifpiaa

namespace Go.Proofs.Ytaclnkcohifpiaa
open Go.RowKit
structure SpotOk (a : List Int) (s : Spot) : Prop where
  loc0 : 0 ≤ s.loc
  r0 : 0 ≤ s.r
  b0 : 0 ≤ s.b
  t0 : 0 ≤ s.t
  t1 : s.t ≤ 65535
  fits : s.loc + s.long ≤ a.length
  free : s.f = true → s.r = 0 ∧ s.t = 0
  word : a[s.loc.toNat]? = some (wordOf s.r s.b s.t s.f)
  head : headE s.r s.b s.t s.f = 0
  fit256 : s.long ≤ 256
theorem readOk_word {v : Int} (h : readOk v) : wordOf (rdR v) (rdB v) (rdT v) (rdF v) = v := by
  obtain ⟨hz, hE⟩ := h
  unfold wordOf rdF
  have h2 : v / 281474976710656 % 2 = v / 281474976710656 := by omega
  have h3 : v / 281474976710656 = 0 ∨ v / 281474976710656 = 1 := by omega
  unfold rdR rdB rdT
  rcases h3 with h3 | h3
  · rw [h3]; simp; omega
  · rw [h3]; simp; omega
theorem spotOk_of {a : List Int} {j : Nat} (h : j < a.length) (h1 : readOk (a.getD j 0)) (h2 : j + hlen (a.getD j 0) ≤ a.length) : SpotOk a (spotOf j (a.getD j 0)) := by
  have hE := headE_ok.1 h1.2
  have hl : hlen (a.getD j 0) = 1 + rdR (a.getD j 0) + rdB (a.getD j 0) := by unfold hlen; omega
  refine ⟨?_, hE.1, hE.2.2.1, hE.2.2.2.2.1, hE.2.2.2.2.2.1, ?_, hE.2.2.2.2.2.2.2, ?_, h1.2, ?_⟩
  · simp [spotOf]
  · simp only [spotOf, Spot.long]; omega
  · simp only [spotOf, Int.toNat_natCast]
    rw [readOk_word h1, List.getElem?_eq_getElem h]
    simp [h]
  · simp only [spotOf, Spot.long]; omega
theorem parse_mem {a : List Int} : ∀ {l : List Spot} {i : Nat}, Parse a i l → ∀ s ∈ l, SpotOk a s ∧ (i : Int) ≤ s.loc := by
  intro l
  induction l with
  | nil => intro i _ s hs; cases hs
  | cons x l ih =>
    rintro i ⟨h1, h2, rfl, h4, h5⟩ s hs
    rcases List.mem_cons.1 hs with rfl | hs
    · exact ⟨spotOk_of h1 h2 h4, by simp [spotOf]⟩
    · have := ih h5 s hs
      have := hlen_pos h2
      exact ⟨(ih h5 s hs).1, by omega⟩
theorem parse_order {a : List Int} : ∀ {l : List Spot} {i : Nat}, Parse a i l → l.Pairwise (fun s t => s.loc + s.long ≤ t.loc) := by
  intro l
  induction l with
  | nil => intro i _; exact List.Pairwise.nil
  | cons x l ih =>
    rintro i ⟨h1, h2, rfl, h4, h5⟩
    refine List.pairwise_cons.2 ⟨fun s hs => ?_, ih h5⟩
    have hE := headE_ok.1 h2.2
    have := (parse_mem h5 s hs).2
    have hl : hlen (a.getD i 0) = 1 + rdR (a.getD i 0) + rdB (a.getD i 0) := by unfold hlen; omega
    simp only [spotOf, Spot.long]
    omega
theorem spots_rise {a : List Int} (h : spotsE a = 0) : (spotsL a).Pairwise (fun s t => s.loc < t.loc) := by
  have hp := (parse_ok h).2
  refine (parse_order hp).imp_of_mem (fun {s t} hs _ hst => ?_)
  have := (parse_mem hp s hs).1
  have := this.r0
  have := (parse_mem hp s hs).1.b0
  unfold Spot.long at hst
  omega
def isPlace (v : Int) (s : Spot) : Bool := !s.f && (s.loc + 1 == v)
def placeF (l : List Spot) (v : Int) : Option Int := if v = 0 then some (-1) else (l.findIdx? (isPlace v)).map (fun (i : Nat) => (i : Int))
def placeV (l : List Spot) : Int → Option Value := fun v => (placeF l v).map (.int .i64)
theorem placeV_nil : placeV [] = upd (fun _ => none) 0 (.int .i64 (-1)) := by
  funext v
  simp only [placeV, placeF, upd]
  by_cases h : v = 0 <;> simp [h]
theorem placeV_free {l : List Spot} {s : Spot} (h : s.f = true) : placeV (l ++ [s]) = placeV l := by
  funext v
  simp only [placeV, placeF]
  by_cases hv : v = 0
  · simp [hv]
  · rw [if_neg hv, if_neg hv, List.findIdx?_append]
    have : List.findIdx? (isPlace v) [s] = none := by
      rw [List.findIdx?_eq_none_iff]
      intro x hx
      obtain rfl := List.mem_singleton.1 hx
      simp [isPlace, h]
    rw [this]
    simp
theorem placeV_snoc {l : List Spot} {s : Spot} (h : s.f = false) (h0 : 0 ≤ s.loc) (hl : ∀ x ∈ l, x.loc < s.loc) : placeV (l ++ [s]) = upd (placeV l) (s.loc + 1) (.int .i64 l.length) := by
  funext v
  simp only [placeV, placeF, upd]
  by_cases hv : v = 0
  · rw [if_pos hv, if_pos hv, if_neg (by omega)]
  · rw [if_neg hv, if_neg hv, List.findIdx?_append]
    by_cases hs : v = s.loc + 1
    · rw [if_pos hs]
      have h1 : l.findIdx? (isPlace v) = none := by
        rw [List.findIdx?_eq_none_iff]
        intro x hx
        have := hl x hx
        simp [isPlace]
        omega
      have h2 : List.findIdx? (isPlace v) [s] = some 0 := by
        simp [List.findIdx?_cons, isPlace, h, hs]
      rw [h1, h2]
      simp
    · rw [if_neg hs]
      have h2 : List.findIdx? (isPlace v) [s] = none := by
        rw [List.findIdx?_eq_none_iff]
        intro x hx
        obtain rfl := List.mem_singleton.1 hx
        simp [isPlace]
        omega
      rw [h2]
      simp
def refsOf (a : List Int) (s : Spot) : List Int := (a.drop (s.loc.toNat + 1)).take s.r.toNat
def bodyOf (a : List Int) (s : Spot) : List Int := (a.drop (s.loc.toNat + 1 + s.r.toNat)).take s.b.toNat
def refsOk (l : List Spot) (a : List Int) : Bool := l.all fun s => (refsOf a s).all fun v => (placeF l v).isSome
def checkE (a : List Int) : Int := if spotsE a ≠ 0 then spotsE a else if refsOk (spotsL a) a = true then 0 else 5
theorem checkE_ok {a : List Int} : checkE a = 0 ↔ spotsE a = 0 ∧ refsOk (spotsL a) a = true := by
  unfold checkE
  split
  · rename_i h; exact ⟨fun h2 => absurd h2 h, fun h2 => absurd h2.1 h⟩
  · rename_i h
    split
    · rename_i h2; exact ⟨fun _ => ⟨by simpa using h, h2⟩, fun _ => rfl⟩
    · rename_i h2; exact ⟨(fun h3 => by cases h3), fun h3 => absurd h3.2 h2⟩
theorem checkE_cases (a : List Int) : checkE a = 0 ∨ checkE a = 2 ∨ checkE a = 3 ∨ checkE a = 5 := by
  unfold checkE
  split
  · rename_i h; rcases spotsE_cases a with h' | h' | h'
    · exact absurd h' h
    · exact .inr (.inl h')
    · exact .inr (.inr (.inl h'))
  · split
    · exact .inl rfl
    · exact .inr (.inr (.inr rfl))
theorem refsOf_length {a : List Int} {s : Spot} (h : SpotOk a s) : (refsOf a s).length = s.r.toNat := by
  have h1 := h.loc0
  have h2 := h.r0
  have h3 := h.b0
  have h4 := h.fits
  unfold Spot.long at h4
  unfold refsOf
  rw [List.length_take, List.length_drop]
  omega
theorem bodyOf_length {a : List Int} {s : Spot} (h : SpotOk a s) : (bodyOf a s).length = s.b.toNat := by
  have h1 := h.loc0
  have h2 := h.r0
  have h3 := h.b0
  have h4 := h.fits
  unfold Spot.long at h4
  unfold bodyOf
  rw [List.length_take, List.length_drop]
  omega
theorem Reads.sub {w : World} {B : Nat} {A : Option Addr} {n c lo hi : Nat} {xs : List Value} (h : Reads w B 1 A n xs) (h1 : lo ≤ hi) (h2 : hi ≤ n) (h3 : n ≤ c) :
    Reads w B 1 (if c = lo then A else A.map (·.add lo)) (hi - lo) ((xs.drop lo).take (hi - lo)) := by
  have hc := h.cut (k := lo) (cap := c) (by omega) h3
  rw [Nat.mul_one] at hc
  refine ⟨by rw [List.length_take, List.length_drop, h.1]; omega, fun hk0 => ?_⟩
  obtain ⟨ad, e, hb, hcell⟩ := hc.2 (by omega)
  refine ⟨ad, e, hb, fun j u hu => hcell j u ?_⟩
  rw [List.getElem?_take] at hu
  split at hu
  · exact hu
  · cases hu
end Go.Proofs.Ytaclnkcohifpiaa

namespace Go.Proofs.Ytaclnkcohifpiaa
open Go.RowKit
structure Rn where
  loc : Int
  len : Int
deriving DecidableEq
def runC (r : Rn) : List Value := [.int .i64 r.loc, .int .i64 r.len]
def runsC (l : List Rn) : List Value := l.flatMap runC
theorem runsC_length (l : List Rn) : (runsC l).length = l.length * 2 := flat_length runC 2 (fun _ => rfl) l
theorem runsC_one (l : List Rn) : ∀ u ∈ runsC l, u.oneCell' = true := by
  intro u hu
  obtain ⟨s, _, hs⟩ := List.mem_flatMap.1 hu
  simp only [runC, List.mem_cons, List.not_mem_nil, or_false] at hs
  rcases hs with rfl | rfl <;> rfl
theorem runsC_snoc (l : List Rn) (s : Rn) : runsC (l ++ [s]) = runsC l ++ runC s := by simp [runsC]
theorem Reads.run {w : World} {B : Nat} {A : Option Addr} {n j : Nat} {l : List Rn} (h : Reads w B 2 A n (runsC l)) (hj : j < n) :
    ∃ ad s, A = some ad ∧ ad.block < B ∧ l[j]? = some s ∧ w.cell? (ad.add (j * 2)) = some (.int .i64 s.loc) ∧
      w.cell? ⟨(ad.add (j * 2)).block, (ad.add (j * 2)).off + 1, none⟩ = some (.int .i64 s.len) := by
  obtain ⟨ad, s, e, hb, hs, c0, cs⟩ := Reads.elem (f := runC) (k := 2) (fun _ => rfl) h (by decide) hj
  exact ⟨ad, s, e, hb, hs, c0, cs 1 (by decide) (by decide)⟩
def badRun (r : Rn) : Bool := decide (r.loc < 0) || decide (r.len < 1)
def fitIx (n : Int) : Nat → List Rn → List Int
  | _, [] => []
  | i, r :: l => if n ≤ r.len then (i : Int) :: fitIx n (i + 1) l else fitIx n (i + 1) l
def fitsE (l : List Rn) (n : Int) : Int := if n < 1 then 1 else if l.any badRun = true then 4 else if fitIx n 0 l = [] then 7 else 0
theorem fitIx_snoc (n : Int) (l : List Rn) (r : Rn) (i : Nat) : fitIx n i (l ++ [r]) = fitIx n i l ++ (if n ≤ r.len then [((i + l.length : Nat) : Int)] else []) := by
  induction l generalizing i with
  | nil => simp only [List.nil_append, fitIx, List.length_nil, Nat.add_zero]
  | cons a l ih =>
    simp only [List.cons_append, fitIx, ih, List.length_cons]
    rw [show i + 1 + l.length = i + (l.length + 1) by omega]
    split <;> simp
theorem fitIx_length (n : Int) (l : List Rn) (i : Nat) : (fitIx n i l).length ≤ l.length := by
  induction l generalizing i with
  | nil => simp [fitIx]
  | cons a l ih =>
    simp only [fitIx]
    have := ih (i + 1)
    split <;> simp only [List.length_cons] <;> omega
theorem fitIx_mem {n : Int} {l : List Rn} {i : Nat} {x : Int} : x ∈ fitIx n i l ↔ ∃ (j : Nat) (r : Rn), l[j]? = some r ∧ n ≤ r.len ∧ x = ((i + j : Nat) : Int) := by
  induction l generalizing i with
  | nil => simp [fitIx]
  | cons a l ih =>
    simp only [fitIx]
    constructor
    · intro h
      split at h
      · rename_i ha
        rcases List.mem_cons.1 h with rfl | h
        · exact ⟨0, a, rfl, ha, rfl⟩
        · obtain ⟨j, r, h1, h2, h3⟩ := ih.1 h
          exact ⟨j + 1, r, h1, h2, by rw [h3]; omega⟩
      · obtain ⟨j, r, h1, h2, h3⟩ := ih.1 h
        exact ⟨j + 1, r, h1, h2, by rw [h3]; omega⟩
    · rintro ⟨j, r, h1, h2, rfl⟩
      cases j with
      | zero =>
        obtain rfl : a = r := by simpa using h1
        rw [if_pos h2]
        exact List.mem_cons_self
      | succ j =>
        have hm : ((i + (j + 1) : Nat) : Int) ∈ fitIx n (i + 1) l := ih.2 ⟨j, r, by simpa using h1, h2, by omega⟩
        split
        · exact List.mem_cons_of_mem _ hm
        · exact hm
theorem fitIx_rise (n : Int) (l : List Rn) (i : Nat) : (fitIx n i l).Pairwise (· < ·) := by
  induction l generalizing i with
  | nil => simp [fitIx]
  | cons a l ih =>
    simp only [fitIx]
    split
    · refine List.pairwise_cons.2 ⟨fun x hx => ?_, ih (i + 1)⟩
      obtain ⟨j, r, _, _, rfl⟩ := fitIx_mem.1 hx
      omega
    · exact ih (i + 1)
theorem fitsE_ok {l : List Rn} {n : Int} : fitsE l n = 0 ↔ 1 ≤ n ∧ l.any badRun = false ∧ fitIx n 0 l ≠ [] := by
  unfold fitsE
  split
  · constructor
    · intro h; cases h
    · omega
  · split
    · rename_i h; constructor
      · intro h; cases h
      · rintro ⟨_, h2, _⟩; rw [h] at h2; cases h2
    · rename_i h
      split
      · rename_i h3; constructor
        · intro h; cases h
        · rintro ⟨_, _, h4⟩; exact absurd h3 h4
      · rename_i h3; exact ⟨fun _ => ⟨by omega, by simpa using h, h3⟩, fun _ => rfl⟩
def bump (acc : List Rn) (n : Int) : List Rn := acc.dropLast ++ (match acc.getLast? with | some r => [⟨r.loc, r.len + n⟩] | none => [])
def gapsA (acc : List Rn) (prev : Bool) : List Spot → List Rn
  | [] => acc
  | s :: l => if s.f = false then gapsA acc false l else if prev = true then gapsA (bump acc s.long) true l else gapsA (acc ++ [⟨s.loc, s.long⟩]) true l
def gapsL (l : List Spot) : List Rn := gapsA [] false l
theorem bump_snoc (acc : List Rn) (r : Rn) (n : Int) : bump (acc ++ [r]) n = acc ++ [⟨r.loc, r.len + n⟩] := by simp [bump]
theorem bump_length {acc : List Rn} (n : Int) : (bump acc n).length = acc.length := by
  rcases List.eq_nil_or_concat acc with rfl | ⟨l, r, rfl⟩
  · rfl
  · rw [List.concat_eq_append, bump_snoc]; simp
theorem gapsA_length (acc : List Rn) (prev : Bool) (l : List Spot) : (gapsA acc prev l).length ≤ acc.length + l.length := by
  induction l generalizing acc prev with
  | nil => simp [gapsA]
  | cons s l ih =>
    simp only [gapsA, List.length_cons]
    split
    · have := ih acc false; omega
    · split
      · have := ih (bump acc s.long) true; rw [bump_length] at this; omega
      · have := ih (acc ++ [⟨s.loc, s.long⟩]) true; simp only [List.length_append, List.length_cons, List.length_nil] at this; omega
theorem runsC_bump (acc : List Rn) (l n x : Int) : (runsC (acc ++ [⟨l, n⟩])).set (acc.length * 2 + 1) (.int .i64 x) = runsC (acc ++ [⟨l, x⟩]) := by
  rw [runsC_snoc, runsC_snoc, List.set_append_right _ _ (by rw [runsC_length]; omega), runsC_length, show acc.length * 2 + 1 - acc.length * 2 = 1 by omega]
  rfl
theorem runsC_last (acc : List Rn) (l n : Int) : (runsC (acc ++ [⟨l, n⟩]))[acc.length * 2 + 1]? = some (.int .i64 n) := by
  rw [runsC_snoc, List.getElem?_append_right (by rw [runsC_length]; omega), runsC_length, show acc.length * 2 + 1 - acc.length * 2 = 1 by omega]
  rfl
end Go.Proofs.Ytaclnkcohifpiaa

namespace Go.Proofs.Ytaclnkcohifpiaa
open Go.RowKit
theorem info_intG : (Try.prog.info? 3).map (fun i => (i.zero, i.size, i.bytes)) = some (some (.int .i64 0), 1, 8) := by kernel_rfl
def fitsL (l : List Rn) (n : Int) : List Int := if fitsE l n = 0 then fitIx n 0 l else []
end Go.Proofs.Ytaclnkcohifpiaa

namespace Go.Proofs.Ytaclnkcohifpiaa
open Go.RowKit
theorem band16 (x : Int) (h0 : 0 ≤ x) (h1 : x < 18446744073709551616) : bits .and .u64 x 65535 = x % 65536 := by
  rw [u64_and x 65535 h0 h1 (by decide) (by decide), show (65535 : Int).toNat = 2 ^ 16 - 1 from rfl, Nat.and_two_pow_sub_one_eq_mod]
  omega
theorem band48 (x : Int) (h0 : 0 ≤ x) (h1 : x < 18446744073709551616) : bits .and .u64 x 281474976710656 = x / 281474976710656 % 2 * 281474976710656 := by
  rw [u64_and x 281474976710656 h0 h1 (by decide) (by decide), show (281474976710656 : Int).toNat = 2 ^ 48 from rfl, nat_bit]
  have : (2 : Nat) ^ 48 = 281474976710656 := by decide
  rw [this]
  omega
theorem bor_join (i : Nat) (x y : Int) (h0 : 0 ≤ x) (h1 : x < 18446744073709551616) (h2 : 0 ≤ y) (h3 : y < 18446744073709551616) (hx : x % 2 ^ i = 0) (hy : y < 2 ^ i) : bits .or .u64 y x = y + x := by
  obtain ⟨a, rfl⟩ := Int.eq_ofNat_of_zero_le h0
  obtain ⟨b, rfl⟩ := Int.eq_ofNat_of_zero_le h2
  rw [u64_or_nat b a (by omega) (by omega), Nat.or_comm, nat_join i a b (by exact_mod_cast hx) (by exact_mod_cast hy)]
  omega
theorem wrap_u64_of {x : Int} (h0 : 0 ≤ x) (h1 : x < 18446744073709551616) : IntKind.u64.wrap x = x := by
  have : IntKind.u64.wrap x = x % 18446744073709551616 := by simp [IntKind.wrap, IntKind.signed, IntKind.bits]
  rw [this]
  omega
theorem or_byte (old : Int) (b e : Nat) (h0 : 0 ≤ old) (h1 : old < 2 ^ e) (hb : b < 256) (he : e ≤ 56) : bits .or .u64 old (IntKind.u64.wrap (IntKind.u64.wrap (b : Int) * 2 ^ e)) = old + b * 2 ^ e := by
  have hp : (2 : Nat) ^ e ≤ 2 ^ 56 := Nat.pow_le_pow_right (by decide) he
  have hp2 : ((2 ^ e : Nat) : Int) ≤ ((2 ^ 56 : Nat) : Int) := Int.ofNat_le.2 hp
  rw [Int.natCast_pow] at hp2
  have hp3 : (2 : Int) ^ e ≤ 72057594037927936 := hp2
  have hp0 : (0 : Int) < 2 ^ e := Int.pow_pos (by decide)
  have hm : (b : Int) * 2 ^ e ≤ 255 * 72057594037927936 := Int.le_trans (Int.mul_le_mul_of_nonneg_right (by omega : (b : Int) ≤ 255) (Int.le_of_lt hp0)) (Int.mul_le_mul_of_nonneg_left hp3 (by decide))
  have hm0 : 0 ≤ (b : Int) * 2 ^ e := Int.mul_nonneg (by omega) (Int.le_of_lt hp0)
  rw [wrap_u64_of (x := (b : Int)) (by omega) (by omega)]
  generalize hx : (b : Int) * 2 ^ e = x at *
  rw [wrap_u64_of hm0 (by omega)]
  have h : x % 2 ^ e = 0 := by rw [← hx]; exact Int.mul_emod_left _ _
  have hj := bor_join e x old
  generalize (2 : Int) ^ e = p at *
  exact hj hm0 (by omega) h0 (by omega) h h1
end Go.Proofs.Ytaclnkcohifpiaa

namespace Go.Proofs.Ytaclnkcohifpiaa
open Go.RowKit
set_option maxHeartbeats 400000 in
theorem hlong_any (r b t : Int) (f : Bool) (w : World) (h : 0 ≤ r ∧ r ≤ 100000 ∧ 0 ≤ b ∧ b ≤ 100000) :
    Calls Try.prog 56 #[.agg #[.int .i64 r, .int .i64 b, .int .i64 t, .bool f]] w fun e w' => e = .returned (.int .i64 (1 + r + b)) ∧ Below w.heap.size w w' := by
  obtain ⟨h1, h2, h3, h4⟩ := h
  go_enter Try.func56, Try.ntmps56
  go_wp2
  go_ret
  exact ⟨rfl, below_new _ _⟩
set_option maxHeartbeats 1000000 in
theorem hcheck_any (r b t : Int) (f : Bool) (w : World) :
    Calls Try.prog 55 #[.agg #[.int .i64 r, .int .i64 b, .int .i64 t, .bool f]] w fun e w' => e = .returned (.int .i64 (headE r b t f)) ∧ Below w.heap.size w w' := by
  by_cases hr : r < 0 ∨ b < 0 ∨ t < 0 ∨ 256 < r ∨ 256 < b ∨ 65535 < t
  · have HE : Hid (headE r b t f = 4) := by show _ = _; unfold headE; rw [if_pos hr]
    go_enter Try.func55, Try.ntmps55
    go_wp2_with fail
    all_goals
      go_ret
      exact ⟨ret_int HE.out.symm, below_new _ _⟩
  · have g1 : 0 ≤ r := by omega
    have g2 : 0 ≤ b := by omega
    have g3 : 0 ≤ t := by omega
    have g4 : r ≤ 256 := by omega
    have g5 : b ≤ 256 := by omega
    have g6 : t ≤ 65535 := by omega
    by_cases hf : f = true ∧ (0 < r ∨ 0 < t)
    · have HE : Hid (headE r b t f = 3) := by show _ = _; unfold headE; rw [if_neg hr, if_pos hf]
      obtain ⟨rfl, hf⟩ := hf
      clear hr
      rcases hf with hf | hf
      all_goals
        go_enter Try.func55, Try.ntmps55
        go_wp2_with fail
        all_goals
          go_ret
          exact ⟨ret_int HE.out.symm, below_new _ _⟩
    · have hf2 : f = false ∨ (f = true ∧ r = 0 ∧ t = 0) := by
        cases f
        · exact .inl rfl
        · exact .inr ⟨rfl, by simp at hf; omega⟩
      by_cases hl : 256 < 1 + r + b
      · have HE : Hid (headE r b t f = 2) := by show _ = _; unfold headE; rw [if_neg hr, if_neg hf, if_pos hl]
        clear hr hf
        rcases hf2 with rfl | ⟨rfl, rfl, rfl⟩
        all_goals
          go_enter Try.func55, Try.ntmps55
          go_wp2_with (go_at_call 56; refine (hlong_any _ _ _ _ _ (by omega)).mono ?_; rintro e w1 ⟨rfl, hb1⟩)
          all_goals
            go_ret
            exact ⟨ret_int HE.out.symm, below_step (below_new _ _) hb1⟩
      · have HE : Hid (headE r b t f = 0) := by show _ = _; unfold headE; rw [if_neg hr, if_neg hf, if_neg hl]
        clear hr hf
        rcases hf2 with rfl | ⟨rfl, rfl, rfl⟩
        all_goals
          go_enter Try.func55, Try.ntmps55
          go_wp2_with (go_at_call 56; refine (hlong_any _ _ _ _ _ (by omega)).mono ?_; rintro e w1 ⟨rfl, hb1⟩)
          all_goals
            go_ret
            exact ⟨ret_int HE.out.symm, below_step (below_new _ _) hb1⟩
set_option maxHeartbeats 400000 in
theorem hword_ok (r b t : Int) (f : Bool) (w : World) (hE : headE r b t f = 0) :
    Calls Try.prog 41 #[.agg #[.int .i64 r, .int .i64 b, .int .i64 t, .bool f]] w fun e w' => e = .returned (.tuple #[.int .u64 (wordOf r b t f), .int .i64 0]) ∧ Below w.heap.size w w' := by
  obtain ⟨h1, h2, h3, h4, h5, h6, h7, h8⟩ := headE_ok.1 hE
  have HE := Lib.hid hE
  have HF := Lib.hid h8
  clear hE h8
  have o1 := bor_join 16 (b * 65536) r (by omega) (by omega) (by omega) (by omega) (by omega) (by omega)
  have o2 := bor_join 32 (t * 4294967296) (r + b * 65536) (by omega) (by omega) (by omega) (by omega) (by omega) (by omega)
  have o3 := bor_join 48 281474976710656 (r + b * 65536 + t * 4294967296) (by omega) (by omega) (by omega) (by omega) (by omega) (by omega)
  cases f
  all_goals
    go_enter Try.func41, Try.ntmps41
    go_wp2_with (go_at_call 55; refine (hcheck_any _ _ _ _ _).mono ?_; rw [HE.out]; rintro e w1 ⟨rfl, hb1⟩; obtain ⟨hc1, hf1⟩ := bcell hb1)
    go_ret2
    exact ⟨by simp [wordOf], below_step (below_new _ _) hb1⟩
set_option maxHeartbeats 400000 in
theorem hword_bad (r b t : Int) (f : Bool) (w : World) (hE : headE r b t f ≠ 0) :
    Calls Try.prog 41 #[.agg #[.int .i64 r, .int .i64 b, .int .i64 t, .bool f]] w fun e w' => e = .returned (.tuple #[.int .u64 0, .int .i64 (headE r b t f)]) ∧ Below w.heap.size w w' := by
  have H := fun w => hcheck_any r b t f w
  have HH := Lib.hid H
  clear H
  generalize headE r b t f = E at *
  have hE1 : (E != 0) = true := by simpa using hE
  have hE2 : (E == 0) = false := by simpa using hE
  go_enter Try.func41, Try.ntmps41
  go_wp2_with (go_at_call 55; refine (HH.out _).mono ?_; rintro e w1 ⟨rfl, hb1⟩)
  go_ret2
  exact ⟨rfl, below_step (below_new _ _) hb1⟩
set_option maxHeartbeats 400000 in
theorem hlongc_ok (r b t : Int) (f : Bool) (w : World) (hE : headE r b t f = 0) :
    Calls Try.prog 45 #[.agg #[.int .i64 r, .int .i64 b, .int .i64 t, .bool f]] w fun e w' => e = .returned (.tuple #[.int .i64 (1 + r + b), .int .i64 0]) ∧ Below w.heap.size w w' := by
  obtain ⟨h1, h2, h3, h4, h5, h6, h7, h8⟩ := headE_ok.1 hE
  have HE := Lib.hid hE
  clear hE h8
  go_enter Try.func45, Try.ntmps45
  go_wp2_with (first
    | (go_at_call 55; refine (hcheck_any _ _ _ _ _).mono ?_; rw [HE.out]; rintro e w1 ⟨rfl, hb1⟩; obtain ⟨hc1, hf1⟩ := bcell hb1)
    | (go_at_call 56; refine (hlong_any _ _ _ _ _ (by omega)).mono ?_; rintro e w2 ⟨rfl, hb2⟩))
  go_ret2
  exact ⟨rfl, below_step (below_step (below_new _ _) hb1) hb2⟩
set_option maxHeartbeats 400000 in
theorem hlongc_bad (r b t : Int) (f : Bool) (w : World) (hE : headE r b t f ≠ 0) :
    Calls Try.prog 45 #[.agg #[.int .i64 r, .int .i64 b, .int .i64 t, .bool f]] w fun e w' => e = .returned (.tuple #[.int .i64 0, .int .i64 (headE r b t f)]) ∧ Below w.heap.size w w' := by
  have H := fun w => hcheck_any r b t f w
  have HH := Lib.hid H
  clear H
  generalize headE r b t f = E at *
  have hE1 : (E != 0) = true := by simpa using hE
  have hE2 : (E == 0) = false := by simpa using hE
  go_enter Try.func45, Try.ntmps45
  go_wp2_with (go_at_call 55; refine (HH.out _).mono ?_; rintro e w1 ⟨rfl, hb1⟩)
  go_ret2
  exact ⟨rfl, below_step (below_new _ _) hb1⟩
theorem hread_ok (v : Int) (w : World) (v0 : 0 ≤ v) (v1 : v < 18446744073709551616) (hok : readOk v) :
    Calls Try.prog 54 #[.int .u64 v] w fun e w' => e = .returned (.tuple #[.agg #[.int .i64 (rdR v), .int .i64 (rdB v), .int .i64 (rdT v), .bool (rdF v)], .int .i64 0]) ∧ Below w.heap.size w w' := by
  obtain ⟨hz, hE⟩ := hok
  have H := fun w => hcheck_any (rdR v) (rdB v) (rdT v) (rdF v) w
  rw [hE] at H
  have HH := Lib.hid H
  clear H hE
  have e1 : bits .and .u64 v 65535 = rdR v := band16 v v0 v1
  have e2 : bits .and .u64 (v / 65536) 65535 = rdB v := band16 (v / 65536) (by omega) (by omega)
  have e3 : bits .and .u64 (v / 4294967296) 65535 = rdT v := band16 (v / 4294967296) (by omega) (by omega)
  have e4 : (bits .and .u64 v 281474976710656 != 0) = rdF v := by
    rw [band48 v v0 v1]
    unfold rdF
    rw [Bool.eq_iff_iff]
    simp
    omega
  have b1 : 0 ≤ rdR v := by unfold rdR; omega
  have b2 : rdR v < 65536 := by unfold rdR; omega
  have b3 : 0 ≤ rdB v := by unfold rdB; omega
  have b4 : rdB v < 65536 := by unfold rdB; omega
  have b5 : 0 ≤ rdT v := by unfold rdT; omega
  have b6 : rdT v < 65536 := by unfold rdT; omega
  generalize rdR v = r at *
  generalize rdB v = b at *
  generalize rdT v = t at *
  generalize rdF v = f at *
  go_enter Try.func54, Try.ntmps54
  go_wp2_with (go_at_call 55; refine (HH.out _).mono ?_; rintro e w1 ⟨rfl, hb1⟩; obtain ⟨hc1, hf1⟩ := bcell hb1)
  have HB : Blk w1 w.heap.size 67 #[.int .i64 0, .int .i64 0, .int .i64 0, .bool false] := ((Blk.new _ _ _).alloc _).below hb1 (by simp only [World.size_alloc]; omega)
  have k0 := HB.cell 0
  have k1 := HB.cell 1
  have k2 := HB.cell 2
  have k3 := HB.cell 3
  simp at k0 k1 k2 k3
  have hb3 := below_step (below_step (below_new _ _) (below_new _ _)) hb1
  refine bodyPost_ret (v := .tuple #[.agg #[.int .i64 r, .int .i64 b, .int .i64 t, .bool f], .int .i64 0]) ?_ rfl ⟨rfl, ?_⟩
  · (simp only [results, Try.results54]; go_simp)
  · repeat (first | exact hb3 | refine Below.setCell ?_ (by simp) _)
theorem hread_bad (v : Int) (w : World) (v0 : 0 ≤ v) (v1 : v < 18446744073709551616) (hbad : ¬ readOk v) :
    Calls Try.prog 54 #[.int .u64 v] w fun e w' => e = .returned (.tuple #[.agg #[.int .i64 0, .int .i64 0, .int .i64 0, .bool false], .int .i64 3]) ∧ Below w.heap.size w w' := by
  have H := fun w => hcheck_any (rdR v) (rdB v) (rdT v) (rdF v) w
  have HH := Lib.hid H
  clear H
  have hb : ¬ v / 562949953421312 = 0 ∨ (v / 562949953421312 = 0 ∧ headE (rdR v) (rdB v) (rdT v) (rdF v) ≠ 0) := by
    unfold readOk at hbad
    by_cases h : v / 562949953421312 = 0
    · exact .inr ⟨h, fun h2 => hbad ⟨h, h2⟩⟩
    · exact .inl h
  clear hbad
  have e1 : bits .and .u64 v 65535 = rdR v := band16 v v0 v1
  have e2 : bits .and .u64 (v / 65536) 65535 = rdB v := band16 (v / 65536) (by omega) (by omega)
  have e3 : bits .and .u64 (v / 4294967296) 65535 = rdT v := band16 (v / 4294967296) (by omega) (by omega)
  have e4 : (bits .and .u64 v 281474976710656 != 0) = rdF v := by
    rw [band48 v v0 v1]
    unfold rdF
    rw [Bool.eq_iff_iff]
    simp
    omega
  have b1 : 0 ≤ rdR v := by unfold rdR; omega
  have b2 : rdR v < 65536 := by unfold rdR; omega
  have b3 : 0 ≤ rdB v := by unfold rdB; omega
  have b4 : rdB v < 65536 := by unfold rdB; omega
  have b5 : 0 ≤ rdT v := by unfold rdT; omega
  have b6 : rdT v < 65536 := by unfold rdT; omega
  generalize headE (rdR v) (rdB v) (rdT v) (rdF v) = E at *
  generalize rdR v = r at *
  generalize rdB v = b at *
  generalize rdT v = t at *
  generalize rdF v = f at *
  rcases hb with hz | ⟨hz, hE⟩
  · go_enter Try.func54, Try.ntmps54
    go_wp2_with fail
    refine bodyPost_ret (v := .tuple #[.agg #[.int .i64 0, .int .i64 0, .int .i64 0, .bool false], .int .i64 3]) ?_ rfl ⟨rfl, ?_⟩
    · simp [results, Try.results54, go_sem]
    · repeat (first | exact below_step (below_new _ _) (below_new _ _) | refine Below.setCell ?_ (by simp) _)
  · have hE1 : (E != 0) = true := by simpa using hE
    have hE2 : (E == 0) = false := by simpa using hE
    go_enter Try.func54, Try.ntmps54
    go_wp2_with (go_at_call 55; refine (HH.out _).mono ?_; rintro e w1 ⟨rfl, hb1⟩; obtain ⟨hc1, hf1⟩ := bcell hb1)
    have HB : Blk w1 w.heap.size 67 #[.int .i64 0, .int .i64 0, .int .i64 0, .bool false] := ((Blk.new _ _ _).alloc _).below hb1 (by simp only [World.size_alloc]; omega)
    have k0 := HB.cell 0
    have k1 := HB.cell 1
    have k2 := HB.cell 2
    have k3 := HB.cell 3
    simp at k0 k1 k2 k3
    have hb3 := below_step (below_step (below_new _ _) (below_new _ _)) hb1
    refine bodyPost_ret (v := .tuple #[.agg #[.int .i64 0, .int .i64 0, .int .i64 0, .bool false], .int .i64 3]) ?_ rfl ⟨rfl, ?_⟩
    · (simp only [results, Try.results54]; go_simp)
    · repeat (first | exact hb3 | refine Below.setCell ?_ (by simp) _)
end Go.Proofs.Ytaclnkcohifpiaa

namespace Go.Proofs.Ytaclnkcohifpiaa
open Go.RowKit
theorem info_spot : (Try.prog.info? 69).map (fun i => (i.zero, i.size, i.bytes)) = some (some (.agg #[.int .i64 0, .int .i64 0, .int .i64 0, .int .i64 0, .bool false]), 5, 40) := by kernel_rfl
set_option maxHeartbeats 400000 in
theorem spots_big (A : Option Addr) (n c : Nat) (w : World) (hn : 256 < n) :
    Calls Try.prog 40 #[.slice A n c] w fun e w' => e = .returned (.tuple #[.slice none 0 0, .int .i64 2]) ∧ w = w' := by
  go_enter Try.func40, Try.ntmps40
  go_wp2
  go_ret2
  exact ⟨rfl, rfl⟩
set_option maxRecDepth 100000 in
set_option maxHeartbeats 1000000 in
theorem spots_small (A : Option Addr) (n c : Nat) (a : List Int) (w : World) (hr : Reads w w.heap.size 1 A n (a.map (.int .u64))) (hn : n ≤ 256) (ha : ∀ x ∈ a, (Lit.int .u64 x).wf = true) :
    Calls Try.prog 40 #[.slice A n c] w fun e w' => Below w.heap.size w w' ∧ ∃ A' c', e = .returned (.tuple #[.slice A' (spotsL a).length c', .int .i64 (spotsE a)]) ∧ w'.ownsRow w.heap.size 69 5 (.slice A' (spotsL a).length c') (spotsL a).length (spotsC (spotsL a)) := by
  have hal : a.length = n := by have := hr.1; simpa using this
  have HL := Lib.hid hal
  obtain ⟨i0, hi, hz0, hz1, hz2⟩ := info_parts info_spot
  clear hal
  go_enter Try.func40, Try.ntmps40
  go_wp2
  go_loopw [4, 5] (fun o i wr => ∃ (j : Nat) (A' : Option Addr) (k c' : Nat) (acc : List Spot), j ≤ n ∧ i = .int .i64 j ∧ o = .slice A' k c' ∧ k ≤ j ∧ Hid (k = acc.length) ∧ Hid (spotsAt a 0 = (spotsAt a j).map (acc ++ ·)) ∧ wr.ownsRow w.heap.size 69 5 (.slice A' k c') k (spotsC acc) ∧ Below w.heap.size w wr) (fun _ i _ => n - (intOf i).toNat)
  case atStart => exact ⟨0, none, 0, 0, [], Nat.zero_le _, rfl, rfl, Nat.le_refl _, rfl, by show _ = _; simp, World.ownsRow_nil _ _ _ _, Below.refl _ _⟩
  case round =>
    obtain ⟨j, A', k, c', acc, hj, rfl, rfl, hkj, hk, hS, hown, hb⟩ := hrel
    by_cases hlt : j < n
    · obtain ⟨ad, v, rfl, had, hv, hc⟩ := (hr.below hb).num hlt
      have HV : Hid (a.getD j 0 = v) := by show _ = _; rw [List.getD_eq_getElem?_getD, hv]; rfl
      obtain ⟨v0, v1⟩ : 0 ≤ v ∧ v < 18446744073709551616 := by have := ha v (List.mem_of_getElem? hv); simp [Lit.wf, IntKind.min, IntKind.max, IntKind.signed, IntKind.bits] at this; omega
      clear hv
      by_cases hok : readOk v
      · have hE := headE_ok.1 hok.2
        have HR := Lib.hid (fun w => hread_ok v w v0 v1 hok)
        have HG := Lib.hid (fun w => hlongc_ok (rdR v) (rdB v) (rdT v) (rdF v) w hok.2)
        have HO := Lib.hid hok
        have HH : Hid (((hlen v : Nat) : Int) = 1 + rdR v + rdB v) := by show _ = _; unfold hlen; omega
        have HP : Hid (spotOf j v = ⟨j, rdR v, rdB v, rdT v, rdF v⟩) := rfl
        obtain ⟨r0, r1, b0, b1, t0, t1, l1, _⟩ := hE
        generalize rdR v = r at *
        generalize rdB v = b at *
        generalize rdT v = t at *
        generalize rdF v = f at *
        clear hok
        by_cases hfit : 1 + r + b ≤ (n : Int) - j
        · go_wp2_with fail
          refine (HR.out _).mono ?_
          rintro e w1 ⟨rfl, hb1⟩
          have hown1 := (own_below hown hb1).alloc (.cells #[.int .i64 r, .int .i64 b, .int .i64 t, .bool f] 67)
          have hb01 := hb.trans (hb1.mono hb.size)
          have hb02 := hb01.alloc hb01.size (.cells #[.int .i64 r, .int .i64 b, .int .i64 t, .bool f] 67)
          have hbl := Blk.new w1 67 #[.int .i64 r, .int .i64 b, .int .i64 t, .bool f]
          clear hown hb hb1
          go_wp2_with fail
          refine (HG.out _).mono ?_
          rintro e w2 ⟨rfl, hb2⟩
          have hbl2 := hbl.below hb2 (by simp)
          have k0 := hbl2.cell 0
          have k1 := hbl2.cell 1
          have k2 := hbl2.cell 2
          have k3 := hbl2.cell 3
          simp only [List.getElem?_toArray, List.getElem?_cons_zero, List.getElem?_cons_succ] at k0 k1 k2 k3
          have hown2 := (own_below hown1 hb2).alloc (.cells (spotC ⟨j, r, b, t, f⟩).toArray 69)
          have hb03 := hb02.trans (hb2.mono hb02.size)
          have hb04 := hb03.alloc hb03.size (.cells (spotC ⟨j, r, b, t, f⟩).toArray 69)
          have hnew := reads_new w2 (spotC ⟨j, r, b, t, f⟩) 69 1 5 rfl
          clear hown1 hb01 hb02 hb2 hbl hbl2
          go_wp2_with (at_builtin; refine wpList_append_any _ rfl (.tmp 40) (.tmp 44) 58 rfl w.heap.size 69 i0 _ 5 40 Try.underlying58 hi hz0 hz1 hz2 rfl (by decide) (.slice A' k c') k _ rfl hown2 (w2.heap.size + 1) (some ⟨w2.heap.size, 0, none⟩) 1 1 (spotC ⟨j, r, b, t, f⟩) rfl hnew (by simp [spotC, Value.oneCell']) (by simp [maxLen]; omega) (by omega) (by have := hb04.size; exact this) ?_; rintro v' w3 hown3 hgr hbl -; obtain ⟨A'', c'', rfl⟩ := own_slice hown3)
          have hb3 : Below w.heap.size w w3 := hb04.grown hgr hb04.size (fun g hg => (hown2.lt g hg).1)
          have hjl : j + hlen v ≤ n := by have := HH.out; omega
          go_roundw
          case rel => exact ⟨j + hlen v, A'', k + 1, c'', acc ++ [spotOf j v], hjl, by rw [Int.natCast_add, HH.out], rfl, by have := HH.out; omega, by show _ = _; rw [List.length_append, ← hk.out]; rfl, by
            show _ = _
            rw [hS.out, spotsAt_step (by rw [HL.out]; exact hlt) (by rw [HV.out]; exact HO.out) (by rw [HV.out, HL.out]; exact hjl), HV.out, Option.map_map]
            congr 1
            funext x
            simp, by rw [spotsC_snoc, HP.out]; exact hown3, hb3⟩
          case measure => have := HH.out; simp [intOf]; omega
        · have HZ : Hid (spotsAt a 0 = none) := by
            show _ = _
            rw [hS.out, spotsAt_bad (by rw [HL.out]; exact hlt) (by rw [HV.out, HL.out]; rintro ⟨_, h⟩; have := HH.out; omega)]
            rfl
          clear hown hS
          go_wp2_with fail
          refine (HR.out _).mono ?_
          rintro e w1 ⟨rfl, hb1⟩
          have hb01 := hb.trans (hb1.mono hb.size)
          go_wp2_with fail
          refine (HG.out _).mono ?_
          rintro e w2 ⟨rfl, hb2⟩
          go_wp2
          go_ret2
          have he : spotsE a = 3 := by unfold spotsE; rw [if_neg (by rw [HL.out]; omega), if_pos HZ.out]
          have hl : spotsL a = [] := spotsL_bad (by rw [he]; decide)
          rw [he, hl]
          exact ⟨(hb01.alloc hb01.size _).trans (hb2.mono (by have := hb01.size; simp; omega)), none, 0, rfl, World.ownsRow_nil _ _ _ _⟩
      · have HR := Lib.hid (fun w => hread_bad v w v0 v1 hok)
        have HG := Lib.hid (fun w => hlongc_ok 0 0 0 false w (by decide))
        have HZ : Hid (spotsAt a 0 = none) := by
          show _ = _
          rw [hS.out, spotsAt_bad (by rw [HL.out]; exact hlt) (by rw [HV.out]; rintro ⟨h, _⟩; exact hok h)]
          rfl
        clear hown hS hok
        go_wp2_with fail
        refine (HR.out _).mono ?_
        rintro e w1 ⟨rfl, hb1⟩
        have hb01 := hb.trans (hb1.mono hb.size)
        go_wp2_with fail
        refine (HG.out _).mono ?_
        rintro e w2 ⟨rfl, hb2⟩
        go_wp2
        go_ret2
        have he : spotsE a = 3 := by unfold spotsE; rw [if_neg (by rw [HL.out]; omega), if_pos HZ.out]
        have hl : spotsL a = [] := spotsL_bad (by rw [he]; decide)
        rw [he, hl]
        exact ⟨(hb01.alloc hb01.size _).trans (hb2.mono (by have := hb01.size; simp; omega)), none, 0, rfl, World.ownsRow_nil _ _ _ _⟩
    · have hjn : j = n := by omega
      subst hjn
      have HZ : Hid (spotsAt a 0 = some acc) := by
        show _ = _
        rw [hS.out, spotsAt_end (by rw [HL.out]; exact Nat.le_refl _)]
        simp
      clear hS
      go_wp2
      go_ret2
      have he : spotsE a = 0 := by unfold spotsE; rw [if_neg (by rw [HL.out]; omega), if_neg (by rw [HZ.out]; exact fun h => by cases h)]
      have hl : spotsL a = acc := by unfold spotsL; rw [if_neg (by rw [HL.out]; omega), HZ.out]; rfl
      rw [he, hl, ← hk.out]
      exact ⟨hb, A', c', rfl, hown⟩
theorem spots_any (A : Option Addr) (n c : Nat) (a : List Int) (w : World) (hr : Reads w w.heap.size 1 A n (a.map (.int .u64))) (ha : ∀ x ∈ a, (Lit.int .u64 x).wf = true) :
    Calls Try.prog 40 #[.slice A n c] w fun e w' => Below w.heap.size w w' ∧ ∃ A' c', e = .returned (.tuple #[.slice A' (spotsL a).length c', .int .i64 (spotsE a)]) ∧ w'.ownsRow w.heap.size 69 5 (.slice A' (spotsL a).length c') (spotsL a).length (spotsC (spotsL a)) := by
  by_cases hn : n ≤ 256
  · exact spots_small A n c a w hr hn ha
  · have hal : a.length = n := by have := hr.1; simpa using this
    refine (spots_big A n c w (by omega)).mono ?_
    rintro e w' ⟨rfl, rfl⟩
    have he : spotsE a = 2 := by unfold spotsE; rw [if_pos (by omega)]
    have hl : spotsL a = [] := spotsL_bad (by rw [he]; decide)
    rw [he, hl]
    exact ⟨Below.refl _ _, none, 0, rfl, World.ownsRow_nil _ _ _ _⟩
end Go.Proofs.Ytaclnkcohifpiaa
