/-
  Texts joined: IntF CloneInt RootFn Mem AppendFit ConcatInt Hand Hand2 HandOpen.
-/
import Derived.Test.YtbmkbnalembbjaaRows
import Derived.IntWalk
import Derived.Lib.AppendZerosOnto
import Derived.Lib.Overlaps
import Derived.Laws.CopyOwn
import Derived.Lib.AppendZeros
import Derived.Deep.RegionHeld3
import Derived.StillTailTactics
import Derived.Test.YtbmkbnalembbjaaK0
import Derived.Test.YtbmkbnalembbjaaK2
namespace Go.Proofs.Ytbmkbnalembbjaa
open Go.RowKit
set_option maxRecDepth 100000 in
set_option maxHeartbeats 1000000 in
theorem indexIntF_any (F : Nat) (cap : Value) (A : Option Addr) (n c B : Nat) (l : List Int) (p : Int → Bool) (w : World) (hr : Reads w B 1 A n (l.map (.int .i64))) (hB : B ≤ w.heap.size) (hn : n ≤ 1000000000000000000) (hP : Plain Try.prog F)
    (HC : ∀ (w' : World) (x : Int), Below w.heap.size w w' → x ∈ l → Calls Try.prog F #[.int .i64 x, cap] w' fun e w'' => e = .returned (.bool (p x)) ∧ Below w'.heap.size w' w'') :
    Calls Try.prog 109 #[.slice A n c, .func (.func F) #[] #[cap]] w fun e w' => e = .returned (.int .i64 (ixOf p l)) ∧ Below w.heap.size w w' := by
  have hll : l.length = n := by have := hr.1; simpa using this
  have HL := Lib.hid hll
  have HC := Lib.hid HC
  have hcf := fun (x : Value) (w : World) => hP #[x, cap] w
  clear hll hP
  go_enter Try.func109, Try.ntmps109
  go_wp2
  go_loopw [5, 8] (fun _ i wr => ∃ j : Nat, j ≤ n ∧ i = .int .i64 j ∧ Below w.heap.size w wr ∧ Hid (∀ x ∈ l.take j, p x = false)) (fun _ i _ => n - (intOf i).toNat)
  case atStart => exact ⟨0, Nat.zero_le _, rfl, Below.refl _ _, by intro x hx; simp at hx⟩
  case round =>
    obtain ⟨j, hj, rfl, hb, HD⟩ := hrel
    by_cases hlt : j < n
    · obtain ⟨ad, s, rfl, had, hs, c0⟩ := (hr.below (hb.mono hB)).num hlt
      have HS := Lib.hid hs
      have HQ := Lib.hid (HC.out wr s hb (List.mem_of_getElem? hs))
      clear hs
      cases hp : p s
      · have HF := Lib.hid hp
        clear hp
        go_wp2_with fail
        refine HQ.out.mono ?_
        rw [HF.out]
        rintro e w1 ⟨rfl, hb1⟩
        go_wp2
        go_roundw
        case rel => exact ⟨j + 1, by omega, by go_num, hb.trans (hb1.mono hb.size), fun x hx => by
          rcases take_succ_mem HS.out x hx with h | rfl
          · exact HD.out x h
          · exact HF.out⟩
        case measure => simp [intOf]; omega
      · have HF := Lib.hid hp
        clear hp
        go_wp2_with fail
        refine HQ.out.mono ?_
        rw [HF.out]
        rintro e w1 ⟨rfl, hb1⟩
        go_wp2
        go_ret
        exact ⟨ret_int (ixOf_some HS.out HF.out HD.out).symm, hb.trans (hb1.mono hb.size)⟩
    · go_wp2
      go_ret
      exact ⟨ret_int (ixOf_none (by have := HD.out; rwa [List.take_of_length_le (by rw [HL.out]; omega)] at this)).symm, hb⟩
theorem containsIntF_any (F : Nat) (cap : Value) (A : Option Addr) (n c B : Nat) (l : List Int) (p : Int → Bool) (w : World) (hr : Reads w B 1 A n (l.map (.int .i64))) (hB : B ≤ w.heap.size) (hn : n ≤ 1000000000000000000) (hP : Plain Try.prog F)
    (HC : ∀ (w' : World) (x : Int), Below w.heap.size w w' → x ∈ l → Calls Try.prog F #[.int .i64 x, cap] w' fun e w'' => e = .returned (.bool (p x)) ∧ Below w'.heap.size w' w'') :
    Calls Try.prog 82 #[.slice A n c, .func (.func F) #[] #[cap]] w fun e w' => e = .returned (.bool (l.any p)) ∧ Below w.heap.size w w' := by
  have H := Lib.hid (indexIntF_any F cap A n c B l p w hr hB hn hP HC)
  have hd := ixOf_nonneg p l
  rw [← hd]
  generalize ixOf p l = i at *
  clear HC hd
  go_enter Try.func82, Try.ntmps82
  go_wp2_with fail
  refine H.out.mono ?_
  rintro e w1 ⟨rfl, hb⟩
  go_wp2
  go_ret
  exact ⟨rfl, hb⟩
end Go.Proofs.Ytbmkbnalembbjaa

namespace Go.Proofs.Ytbmkbnalembbjaa
open Go.RowKit
theorem info_int : (Try.prog.info? 3).map (fun i => (i.zero, i.size, i.bytes)) = some (some (.int .i64 0), 1, 8) := by kernel_rfl
set_option maxHeartbeats 400000 in
theorem clone_int (A : Option Addr) (n c B : Nat) (xs : List Value) (w : World) (hr : Reads w B 1 A n xs) (hB : B ≤ w.heap.size) (h1 : ∀ u ∈ xs, u.oneCell' = true) (hn : n * 8 ≤ 140737488355328) :
    Calls Try.prog 25 #[.slice A n c] w fun e w' => ∃ A' c', e = .returned (.slice A' n c') ∧ w'.ownsRow w.heap.size 3 1 (.slice A' n c') n xs ∧ Below w.heap.size w w' := by
  obtain ⟨i0, hi, hz0, hz1, hz2⟩ := info_parts info_int
  rcases A with _ | ad
  · have hm : n = 0 := by
      rcases Nat.eq_zero_or_pos n with h0 | h0
      · exact h0
      · obtain ⟨ad, h, _⟩ := hr.2 h0
        cases h
    subst hm
    have hx : xs = [] := List.eq_nil_of_length_eq_zero (by simpa using hr.1)
    subst hx
    have hnil := fun (w : World) => Lib.run_eql_slice_nil (P := Try.prog) w 24 3 none 0 c 0 0 Try.underlying24
    go_enter Try.func25, Try.ntmps25
    go_wp2
    go_ret
    exact ⟨none, 0, rfl, World.ownsRow_nil _ _ _ _, Below.refl _ _⟩
  · have hnil := fun (w : World) => Lib.run_eql_slice_nil (P := Try.prog) w 24 3 (some ad) n c 0 0 Try.underlying24
    have hmade := World.ownsRow_made (e := 3) (size := 1) w #[] 0 (Nat.le_refl w.heap.size) (Nat.zero_le _) rfl
    go_enter Try.func25, Try.ntmps25
    go_wp2_with (at_builtin; refine wpList_append_any _ rfl (.tmp 5) (.tmp 6) 24 rfl w.heap.size 3 i0 (.int .i64 0) 1 8 Try.underlying24 hi hz0 hz1 hz2 rfl (by decide) (.slice (some ⟨w.heap.size, 0, none⟩) 0 0) 0 [] rfl hmade B (some ad) n c xs rfl (hr.alloc hB _) h1 (by simp [maxLen]; omega) (by simpa using hn) (by simp) ?_; rintro v' w1 hown hgr hbl -; obtain ⟨A', c', rfl⟩ := own_slice hown)
    go_ret
    exact ⟨A', c', rfl, by simpa using hown, ((Below.refl _ _).alloc (Nat.le_refl _) _).grown hgr (by simp) (by simp [Value.ownBlock])⟩
theorem ints_one (l : List Int) : ∀ u ∈ l.map (Value.int .i64), u.oneCell' = true := by
  intro u hu
  obtain ⟨x, _, rfl⟩ := List.mem_map.1 hu
  rfl
end Go.Proofs.Ytbmkbnalembbjaa

namespace Go.Proofs.Ytbmkbnalembbjaa
open Go.RowKit
def inR (v n : Int) : Bool := decide (-1 ≤ v) && decide (v < n)
def rootE (r : List Int) (n : Int) : Int := if n < 0 ∨ 256 < n then 4 else if 32 < r.length then 2 else if r.any (fun v => !inR v n) = true then 4 else 0
theorem rootE_ok {r : List Int} {n : Int} (h : rootE r n = 0) : 0 ≤ n ∧ n ≤ 256 ∧ r.length ≤ 32 ∧ ∀ v ∈ r, -1 ≤ v ∧ v < n := by
  unfold rootE at h
  split at h
  · cases h
  · split at h
    · cases h
    · split at h
      · cases h
      · rename_i h1 h2 h3
        refine ⟨by omega, by omega, by omega, fun v hv => ?_⟩
        have h4 : ¬ (!inR v n) = true := fun h5 => h3 (List.any_eq_true.2 ⟨v, hv, h5⟩)
        simp only [inR, Bool.not_eq_true', Bool.not_eq_false, Bool.and_eq_true, decide_eq_true_eq] at h4
        exact h4
theorem rootE_of {r : List Int} {n : Int} (h0 : 0 ≤ n) (h1 : n ≤ 256) (h2 : r.length ≤ 32) (h3 : ∀ v ∈ r, -1 ≤ v ∧ v < n) : rootE r n = 0 := by
  unfold rootE
  rw [if_neg (by omega), if_neg (by omega), if_neg]
  intro h
  obtain ⟨v, hv, h4⟩ := List.any_eq_true.1 h
  have := h3 v hv
  simp only [inR, Bool.not_eq_true', Bool.and_eq_false_iff, decide_eq_false_iff_not] at h4
  omega
set_option maxHeartbeats 400000 in
theorem within_any (v n : Int) (w : World) : Calls Try.prog 84 #[.int .i64 v, .int .i64 n] w fun e w' => e = .returned (.bool (inR v n)) ∧ w' = w := by
  unfold inR
  by_cases h : -1 ≤ v
  · rw [decide_eq_true h, Bool.true_and]
    have h1 : decide (-1 ≤ v) = true := decide_eq_true h
    go_enter Try.func84, Try.ntmps84
    go_wp2
    go_ret
    exact ⟨rfl, rfl⟩
  · rw [decide_eq_false h, Bool.false_and]
    have h1 : decide (-1 ≤ v) = false := decide_eq_false h
    go_enter Try.func84, Try.ntmps84
    go_wp2
    go_ret
    exact ⟨rfl, rfl⟩
set_option maxHeartbeats 400000 in
theorem rootOut_any (v n : Int) (g : Nat) (w : World) (hc : w.cell? ⟨g, 0, none⟩ = some (.int .i64 n)) :
    Calls Try.prog 83 #[.int .i64 v, .pointer (some ⟨g, 0, none⟩)] w fun e w' => e = .returned (.bool (!inR v n)) ∧ Below w.heap.size w w' := by
  have H := Lib.hid (fun w => within_any v n w)
  generalize inR v n = b at *
  go_enter Try.func83, Try.ntmps83
  go_wp2_with (go_at_call 84; refine (H.out _).mono ?_; rintro e w' ⟨rfl, rfl⟩)
  go_ret
  exact ⟨rfl, Below.refl _ _⟩
set_option maxRecDepth 100000 in
set_option maxHeartbeats 1000000 in
theorem rootCheck_any (A : Option Addr) (n c : Nat) (r : List Int) (N : Int) (w : World) (hr : Reads w w.heap.size 1 A n (r.map (.int .i64))) (hn : n ≤ 9223372036854775807) :
    Calls Try.prog 59 #[.slice A n c, .int .i64 N] w fun e w' => e = .returned (.int .i64 (rootE r N)) ∧ Below w.heap.size w w' := by
  have hrl : r.length = n := by have := hr.1; simpa using this
  have hb0 := below_new w (.cells #[.int .i64 N] 3)
  have B0 := Blk.new w 3 #[.int .i64 N]
  unfold rootE
  rw [hrl]
  by_cases h1 : N < 0
  · rw [if_pos (.inl h1)]
    have g1 : decide (N < 0) = true := decide_eq_true h1
    go_enter Try.func59, Try.ntmps59
    go_wp2
    go_ret
    exact ⟨rfl, hb0⟩
  · have g1 : decide (N < 0) = false := decide_eq_false h1
    obtain ⟨K, rfl⟩ : ∃ K : Nat, N = K := ⟨N.toNat, by omega⟩
    by_cases h2 : 256 < K
    · rw [if_pos (.inr (by omega))]
      have g2 : decide (256 < K) = true := decide_eq_true h2
      go_enter Try.func59, Try.ntmps59
      go_wp2
      go_ret
      exact ⟨rfl, hb0⟩
    · rw [if_neg (by omega)]
      have g2 : decide (256 < K) = false := decide_eq_false h2
      by_cases h3 : 32 < n
      · rw [if_pos h3]
        have g3 : decide (32 < n) = true := decide_eq_true h3
        go_enter Try.func59, Try.ntmps59
        go_wp2
        go_ret
        exact ⟨rfl, hb0⟩
      · rw [if_neg h3]
        have g3 : decide (32 < n) = false := decide_eq_false h3
        have HC := containsIntF_any 83 (.pointer (some ⟨w.heap.size, 0, none⟩)) A n c _ r (fun v => !inR v K) _ (hr.below hb0) hb0.size (by omega) (plain_of (fn := Try.f83) Try.func83 (by kernel_rfl) (by kernel_rfl)) (fun w' x hb' _ =>
          rootOut_any x K w.heap.size w' ((B0.below hb' B0.lt).cell 0))
        generalize r.any (fun v => !inR v K) = b at *
        have HC := Lib.hid HC
        clear hrl hr
        cases b
        · rw [if_neg (by decide)]
          go_enter Try.func59, Try.ntmps59
          go_wp2_with fail
          refine HC.out.mono ?_
          rintro e w1 ⟨rfl, hb1⟩
          go_wp2
          go_ret
          exact ⟨rfl, below_step hb0 hb1⟩
        · rw [if_pos rfl]
          go_enter Try.func59, Try.ntmps59
          go_wp2_with fail
          refine HC.out.mono ?_
          rintro e w1 ⟨rfl, hb1⟩
          go_wp2
          go_ret
          exact ⟨rfl, below_step hb0 hb1⟩
def namedL (r : List Int) : List Int := Lib.compact (sortL (r.filter fun x => !decide (x < 0)))
theorem namedL_mem {r : List Int} {x : Int} : x ∈ namedL r ↔ x ∈ r ∧ 0 ≤ x := by
  unfold namedL
  rw [compact_mem, sortL_mem, List.mem_filter]
  simp only [Bool.not_eq_true', decide_eq_false_iff_not, Int.not_lt]
theorem namedL_length (r : List Int) : (namedL r).length ≤ r.length := by
  unfold namedL
  have h1 := (compact_sublist (sortL (r.filter fun x => !decide (x < 0)))).length_le
  rw [sortL_length] at h1
  have h2 := List.length_filter_le (fun x => !decide (x < 0)) r
  omega
theorem below_grown_own {w w' : World} {base : Nat} {e : TypeId} {size n : Nat} {v : Value} {xs : List Value} {B : Nat} {w0 : World} (hb : Below B w0 w) (h : w.ownsRow base e size v n xs) (hg : w.grownBy w' v.ownBlock) (hB : B ≤ base) (hs : B ≤ w.heap.size) : Below B w0 w' :=
  hb.grown hg hs (fun g hg' => by have := (h.lt g hg').1; omega)
set_option maxHeartbeats 1000000 in
theorem named_ok (A : Option Addr) (n c : Nat) (r : List Int) (N : Int) (w : World) (hr : Reads w w.heap.size 1 A n (r.map (.int .i64))) (hE : rootE r N = 0) :
    Calls Try.prog 85 #[.slice A n c, .int .i64 N] w fun e w' => ∃ A' c', e = .returned (.tuple #[.slice A' (namedL r).length c', .int .i64 0]) ∧
      w'.ownsRow w.heap.size 3 1 (.slice A' (namedL r).length c') (namedL r).length ((namedL r).map (.int .i64)) ∧ Below w.heap.size w w' := by
  have hrl : r.length = n := by have := hr.1; simpa using this
  have hn : n ≤ 32 := by have := (rootE_ok hE).2.2.1; omega
  have H := rootCheck_any A n c r N w hr (by omega)
  rw [hE] at H
  have H := Lib.hid H
  have hf := List.length_filter_le (fun x => !decide (x < 0)) r
  unfold namedL
  generalize hF : (r.filter fun x => !decide (x < 0)) = F at *
  have HF := Lib.hid hF
  have hcl : (Lib.compact (sortL F)).length ≤ F.length := by have := (compact_sublist (sortL F)).length_le; rw [sortL_length] at this; exact this
  have hsl := sortL_length F
  clear hF hE
  go_enter Try.func85, Try.ntmps85
  go_wp2_with fail
  refine H.out.mono ?_
  rintro e w1 ⟨rfl, hb1⟩
  go_wp2_with fail
  refine (clone_int A n c _ (r.map (.int .i64)) _ (hr.below hb1) hb1.size (ints_one r) (by omega)).mono ?_
  rintro e w2 ⟨A2, c2, rfl, hown2, hb2⟩
  have hb02 := below_step hb1 hb2
  go_wp2_with fail
  refine (delete_neg _ A2 n c2 r _ hown2 (by omega)).mono ?_
  rw [HF.out]
  rintro e w3 ⟨rfl, hown3, hg3⟩
  have hb03 := below_grown_own hb02 hown2 hg3 hb1.size hb02.size
  go_wp2_with fail
  refine (sort_int _ A2 F.length c2 F _ hown3 (by omega)).mono ?_
  rintro e w4 ⟨rfl, hown4, hg4⟩
  have hb04 := below_grown_own hb03 hown3 hg4 hb1.size hb03.size
  go_wp2_with fail
  rw [← hsl]
  rw [← hsl] at hown4
  refine (compact_int _ A2 (sortL F).length c2 (sortL F) _ hown4 (by omega)).mono ?_
  rintro e w5 ⟨rfl, hown5, hg5⟩
  have hb05 := below_grown_own hb04 hown4 hg5 hb1.size hb04.size
  go_wp2
  go_ret2
  exact ⟨_, _, rfl, own_mono hown5 hb1.size, hb05⟩
def setE (r : List Int) (n slot v : Int) : Int := if rootE r n ≠ 0 then rootE r n else if slot < 0 ∨ (r.length : Int) ≤ slot then 5 else if inR v n = true then 0 else 4
end Go.Proofs.Ytbmkbnalembbjaa

namespace Go.Proofs.Ytbmkbnalembbjaa
open Go.RowKit
variable {P : Program}
theorem run_appendK (w : World) (t ty elem : TypeId) (k g sLen sCap : Nat) (ad : Addr) (m c : Nat) (cur : List Value) (tt : TypeId) (cs : List Value)
    (hu : P.underlying t = some (.slice elem)) (hs : (P.info? elem).map (·.size) = some k) (hg : w.heap[g]? = some (.cells cur.toArray tt (0, 0))) (hn : cs.length = m * k)
    (hsrc : ∀ j v, cs[j]? = some v → w.cell? (ad.add j) = some v) (hroom : sLen + m ≤ sCap) (hfit : sLen * k + cs.length ≤ cur.length) (h1 : ∀ v ∈ cs, v.oneCell' = true) :
    (Builtin.append_ #[t, t] ty #[.slice (some ⟨g, 0, none⟩) sLen sCap, .slice (some ad) m c]).run P w = .ok (.slice (some ⟨g, 0, none⟩) (sLen + m) sCap) (w.setRow g (splice cur (sLen * k) cs).toArray) := by
  have hl := run_loadCells_list (P := P) w ad cs hsrc
  have hst := run_storeCells_at P g (sLen * k) tt cs 0 cur.toArray w hg (by simpa using hfit) h1
  cases hq : P.info? elem with
  | none => simp [hq] at hs
  | some i =>
    have hi : i.size = k := by simpa [hq] using hs
    simp [Builtin.append_, run_underlying hu, Builtin.lenOf, Builtin.firstCells, sizeOf, typeInfo, hq, hi, hroom, ← hn, hl, hst, splice, Addr.add_lit]
theorem step_append_run {ops : Array Oper} {o : Oper} {a : Act} {w : World} {K : Act → World → Prop} {Q : Exit → Act → World → Prop} {E : Prop}
    (hg : o.guard = none) (d x : Operand) (dT sT : TypeId) (hop : o.op = Op.call { callee := Callee.builtin Builtin.append, args := #[d, x], argTypes := #[dT, sT] })
    (v u : Value) (hd : a.eval d = v) (hx : a.eval x = u) {v' : Value} {w' : World} (hr : (Builtin.append_ #[dT, sT] o.type #[v, u]).run P w = .ok v' w') (hK : K (a.put o.dst v') w') :
    if Region.wanted o (yielded ops a.tmps) = true then Oper.wp P o a w K Q else E := by
  have hw : Region.wanted o (yielded ops a.tmps) = true := by simp [Region.wanted, hg]
  rw [if_pos hw]
  unfold Oper.wp
  simp [execOp, hop, resolve, invoke, builtin, hd, hx, hr, Result.andThen]
  exact hK
end Go.Proofs.Ytbmkbnalembbjaa

namespace Go.Proofs.Ytbmkbnalembbjaa
open Go.RowKit
theorem grownBy_setRow {w : World} {g : Nat} {cs : Array Value} : w.grownBy (w.setRow g cs) (some g) := by
  refine ⟨rfl, rfl, rfl, by simp [World.setRow], fun b hb hne => ?_⟩
  exact setRow_other _ _ _ _ (fun e => hne (by rw [e]))
section
variable {P : Program} (w : World)
theorem run_append_fit (base : Nat) (t ty e : TypeId) (i : TypeInfo) (size : Nat) (ht : P.underlying t = some (.slice e)) (hi : P.info? e = some i) (hsize : i.size = size)
    (A : Option Addr) (n cap : Nat) (xs : List Value) (hown : w.ownsRow base e size (.slice A n cap) n xs) (B : Nat) (As : Option Addr) (m c : Nat) (news : List Value) (hr : Reads w B size As m news) (h1 : ∀ u ∈ news, u.oneCell' = true) (_ : 0 < size)
    (hfit : n + m ≤ cap) :
    ∃ w', (Builtin.append_ #[t, t] ty #[.slice A n cap, .slice As m c]).run P w = .ok (.slice A (n + m) cap) w' ∧ w'.ownsRow base e size (.slice A (n + m) cap) (n + m) (xs ++ news) ∧ w.grownBy w' (Value.slice A n cap).ownBlock := by
  have hnil : m = 0 → news = [] := fun h => List.eq_nil_of_length_eq_zero (by rw [hr.1, h]; simp)
  rcases As with _ | ad
  · have hm : m = 0 := by
      rcases Nat.eq_zero_or_pos m with h0 | h0
      · exact h0
      · obtain ⟨ad, h, _⟩ := hr.2 h0
        cases h
    subst hm
    rw [hnil rfl]
    exact ⟨w, run_append_of_nil w base t ty e i size ht hi _ n xs hown c, by simpa using hown, World.grownBy.refl w _⟩
  · have hcells : ∀ j u, news[j]? = some u → w.cell? (ad.add j) = some u := by
      intro j u hu
      rcases Nat.eq_zero_or_pos m with h0 | h0
      · rw [hnil h0] at hu; simp at hu
      · obtain ⟨ad', h, _, hc⟩ := hr.2 h0
        injection h with h
        subst h
        exact hc j u hu
    rcases hown.2 with ⟨hv, hx⟩ | ⟨g, cap', cur, hv, -⟩
    · injection hv with e1 e2 e3
      subst e1 e2 e3
      have hm : m = 0 := by omega
      subst hm
      rw [hnil rfl]
      have hl0 := run_loadCells_list (P := P) w ad [] (by simp)
      simp only [List.length_nil] at hl0
      exact ⟨w, by simp [hl0, Builtin.append_, run_underlying ht, sizeOf, typeInfo, hi, Builtin.lenOf, Builtin.firstCells], by simpa using hown, World.grownBy.refl w _⟩
    · injection hv with e1 e2 e3
      subst e1
      obtain ⟨cur, hb, hg, hc, hm, hs, htk⟩ := own_open hown
      have hlen : news.length = m * size := hr.1
      have hmul : (n + m) * size ≤ cap * size := Nat.mul_le_mul_right _ hfit
      have hsum : (n + m) * size = n * size + m * size := Nat.add_mul _ _ _
      have hrun := run_appendK (P := P) w t ty e size g n cap ad m c cur e news ht (by rw [hi]; simp [hsize]) hg hlen hcells hfit (by omega) h1
      refine ⟨_, hrun, ?_, grownBy_setRow⟩
      have hl2 : (splice cur (n * size) news).length = cap * size := by unfold splice; simp; omega
      have := own_close (w := w.setRow g (splice cur (n * size) news).toArray) (base := base) (e := e) (size := size) (n := n + m) (c := cap) (g := g) (splice cur (n * size) news) hb (setRow_heap w g _ _ _ _ hg) hfit hm hl2
      have h3 : (splice cur (n * size) news).take ((n + m) * size) = xs ++ news := by
        rw [hsum, take_splice _ _ _ _ (by omega) (by omega)]
        unfold splice
        rw [List.take_take, Nat.min_eq_left (by omega), htk, List.drop_of_length_le (by rw [List.length_take]; omega), List.append_nil]
      rw [h3] at this
      exact this
end
end Go.Proofs.Ytbmkbnalembbjaa

namespace Go.Proofs.Ytbmkbnalembbjaa
open Go.RowKit
set_option maxRecDepth 100000 in
set_option maxHeartbeats 400000 in
theorem growInt_nil (n : Nat) (w : World) (hn : n ≤ 35184372088832) :
    Calls Try.prog 68 #[.slice none 0 0, .int .i64 n] w fun e w' => ∃ A' c', e = .returned (.slice A' 0 c') ∧ w'.ownsRow w.heap.size 3 1 (.slice A' 0 c') 0 [] ∧ n ≤ c' ∧ Below w.heap.size w w' := by
  obtain ⟨i0, hi, hz0, hz1, hz2⟩ := info_parts info_int
  by_cases h0 : n = 0
  · subst h0
    go_enter Try.func68, Try.ntmps68
    go_wp2
    go_ret
    exact ⟨none, 0, rfl, World.ownsRow_nil _ _ _ _, Nat.le_refl _, Below.refl _ _⟩
  · have hw : IntKind.i64.wrap (n : Int) = n := IntWalk.i64_in _ (by omega)
    have g1 : decide (0 < n) = true := decide_eq_true (by omega)
    have hrun := fun ty => Lib.run_append_nil_zeros (P := Try.prog) w 24 3 ty 3 i0 _ .i64 .i64 Try.underlying24 Try.underlying3 hi hz0 n (by omega) (by rw [hz1]; decide) (by omega) (by rw [hz2]; omega)
    obtain ⟨cap, hcap, hc1, hc2⟩ : ∃ cap, cap = grownCap w n 0 3 ∧ n ≤ cap ∧ cap ≤ maxLen := ⟨_, rfl, grownCap_ge .., grownCap_le_maxLen _ _ _ _ (by unfold maxLen; omega)⟩
    rw [← hcap] at hrun
    have hsz : (Builtin.zeroCells (Value.int .i64 0).cells n ++ Builtin.zeroCells (Value.int .i64 0).cells (cap - n)).size = cap * 1 := by
      rw [Array.size_append, size_zeroCells, size_zeroCells]
      have : (Value.int .i64 0).cells.size = 1 := rfl
      rw [this]; omega
    generalize hcs : Builtin.zeroCells (Value.int .i64 0).cells n ++ Builtin.zeroCells (Value.int .i64 0).cells (cap - n) = cs at *
    have hfin : (w.drew.alloc (.cells cs 3)).ownsRow w.heap.size 3 1 (.slice (some ⟨w.heap.size, 0, none⟩) 0 cap) 0 [] := by
      have := own_close (w := w.drew.alloc (.cells cs 3)) (base := w.heap.size) (e := 3) (size := 1) (n := 0) (c := cap) (g := w.heap.size) cs.toList (Nat.le_refl _) (by simpa using heap_alloc_new w.drew _) (Nat.zero_le _) hc2 (by simpa using hsz)
      simpa using this
    have HF := Lib.hid hfin
    clear hfin hsz hcs hcap
    go_enter Try.func68, Try.ntmps68
    go_wp2_with (at_builtin; refine Lib.wpList_append_run _ rfl _ _ _ _ rfl _ _ rfl rfl _ _ (hrun _) ?_)
    go_ret
    exact ⟨_, _, rfl, HF.out, hc1, (Below.refl _ _).drew.alloc (Nat.le_refl _) _⟩
theorem Reads.pair {w : World} {B : Nat} {A : Option Addr} {x y : Value} (h : Reads w B 1 A 2 [x, y]) : ∃ ad, A = some ad ∧ ad.block < B ∧ w.cell? ad = some x ∧ w.cell? ⟨ad.block, ad.off + 1, none⟩ = some y := by
  obtain ⟨ad, u, e, hb, hu, hc⟩ := h.at_ (k := 0) (by decide)
  obtain ⟨ad', u', e', hb', hu', hc'⟩ := h.at_ (k := 1) (by decide)
  obtain rfl : ad' = ad := by rw [e] at e'; injection e' with e'; exact e'.symm
  simp at hu hu'
  subst hu
  subst hu'
  exact ⟨ad', e, hb, by simpa [Addr.add] using hc, by rw [addr_add_pos _ _ (by decide)] at hc'; exact hc'⟩
set_option maxRecDepth 100000 in
set_option maxHeartbeats 1000000 in
theorem concat2_int (A1 : Option Addr) (q1 c1 : Nat) (xs1 : List Value) (A2 : Option Addr) (q2 c2 : Nat) (xs2 : List Value) (Av : Option Addr) (cv : Nat) (w : World)
    (hv : Reads w w.heap.size 1 Av 2 [.slice A1 q1 c1, .slice A2 q2 c2]) (h1 : Reads w w.heap.size 1 A1 q1 xs1) (h2 : Reads w w.heap.size 1 A2 q2 xs2)
    (o1 : ∀ u ∈ xs1, u.oneCell' = true) (o2 : ∀ u ∈ xs2, u.oneCell' = true) (hq : q1 + q2 ≤ 35184372088832) :
    Calls Try.prog 46 #[.slice Av 2 cv] w fun e w' => ∃ A' c', e = .returned (.slice A' (q1 + q2) c') ∧ w'.ownsRow w.heap.size 3 1 (.slice A' (q1 + q2) c') (q1 + q2) (xs1 ++ xs2) ∧ Below w.heap.size w w' := by
  obtain ⟨i0, hi, hz0, hz1, hz2⟩ := info_parts info_int
  obtain ⟨ad, rfl, hbl, k0, k1⟩ := hv.pair
  obtain ⟨S, hS⟩ : ∃ S, S = q1 + q2 := ⟨_, rfl⟩
  have wS : IntKind.i64.wrap ((q1 : Int) + q2) = (S : Int) := by rw [IntWalk.i64_in _ (by omega)]; omega
  have wQ : IntKind.i64.wrap (q1 : Int) = (q1 : Int) := IntWalk.i64_in _ (by omega)
  have HG := Lib.hid (fun w => growInt_nil S w (by omega))
  have HS := Lib.hid hS
  rw [← hS]
  clear hS hv
  go_enter Try.func46, Try.ntmps46
  go_wp2_with fail
  go_loop [3, 5, 11] (fun sz _ i => (i = .int .i64 0 ∧ sz = .int .i64 0) ∨ (i = .int .i64 1 ∧ sz = .int .i64 q1) ∨ (i = .int .i64 2 ∧ sz = .int .i64 S)) (fun _ _ i => 2 - (intOf i).toNat)
  case atStart => exact .inl ⟨rfl, rfl⟩
  case round =>
    rcases hrel with ⟨rfl, rfl⟩ | ⟨rfl, rfl⟩ | ⟨rfl, rfl⟩
    · go_wp2_with fail
      go_round
      case rel => exact .inr (.inl ⟨rfl, rfl⟩)
      case measure => simp [intOf]
    · go_wp2_with fail
      go_round
      case rel => exact .inr (.inr ⟨rfl, rfl⟩)
      case measure => simp [intOf]
    · go_wp2_with fail
      refine (HG.out _).mono ?_
      rintro e w1 ⟨A', c', rfl, hown, hcap, hb⟩
      rw [HS.out] at hcap
      go_wp2
      go_loopw [6, 8, 27] (fun ns _ i wr => Below w.heap.size w wr ∧ ((∃ A' c', i = .int .i64 0 ∧ ns = .slice A' 0 c' ∧ wr.ownsRow w.heap.size 3 1 (.slice A' 0 c') 0 [] ∧ q1 + q2 ≤ c') ∨
        (∃ A' c', i = .int .i64 1 ∧ ns = .slice A' q1 c' ∧ wr.ownsRow w.heap.size 3 1 (.slice A' q1 c') q1 xs1 ∧ q1 + q2 ≤ c') ∨
        (∃ A' c', i = .int .i64 2 ∧ ns = .slice A' S c' ∧ wr.ownsRow w.heap.size 3 1 (.slice A' S c') S (xs1 ++ xs2)))) (fun _ _ i _ => 2 - (intOf i).toNat)
      case atStart => exact ⟨hb, .inl ⟨_, _, rfl, rfl, hown, hcap⟩⟩
      case round =>
        obtain ⟨hb, ⟨A', c', rfl, rfl, hown, hcap⟩ | ⟨A', c', rfl, rfl, hown, hcap⟩ | ⟨A', c', rfl, rfl, hown⟩⟩ := hrel
        · have m0 := (hb.cell (p := ad) hbl).trans k0
          obtain ⟨w2, hrun, hown2, hgr⟩ := run_append_fit (P := Try.prog) wr w.heap.size 24 24 3 i0 1 Try.underlying24 hi hz1 A' 0 c' [] hown w.heap.size A1 q1 c1 xs1 (h1.below hb) o1 (by decide) (by omega)
          go_wp2_with (at_builtin; refine Lib.wpList_append_run _ rfl _ _ _ _ rfl _ _ rfl rfl _ _ hrun ?_)
          have hb2 : Below w.heap.size w w2 := hb.grown hgr hb.size (fun g hg => (hown.lt g hg).1)
          rw [Nat.zero_add, List.nil_append] at hown2
          go_roundw
          case rel => exact ⟨hb2, .inr (.inl ⟨_, _, rfl, by simp, hown2, hcap⟩)⟩
          case measure => simp [intOf]
        · have m0 := (hb.cell (p := ⟨ad.block, ad.off + 1, none⟩) hbl).trans k1
          obtain ⟨w2, hrun, hown2, hgr⟩ := run_append_fit (P := Try.prog) wr w.heap.size 24 24 3 i0 1 Try.underlying24 hi hz1 A' q1 c' xs1 hown w.heap.size A2 q2 c2 xs2 (h2.below hb) o2 (by decide) hcap
          go_wp2_with (at_builtin; refine Lib.wpList_append_run _ rfl _ _ _ _ rfl _ _ rfl rfl _ _ hrun ?_)
          have hb2 : Below w.heap.size w w2 := hb.grown hgr hb.size (fun g hg => (hown.lt g hg).1)
          rw [← HS.out] at hown2
          go_roundw
          case rel => exact ⟨hb2, .inr (.inr ⟨_, _, rfl, by rw [HS.out], hown2⟩)⟩
          case measure => simp [intOf]
        · go_wp2
          go_ret
          exact ⟨A', c', rfl, hown, hb⟩
end Go.Proofs.Ytbmkbnalembbjaa

namespace Go.Proofs.Ytbmkbnalembbjaa
open Go.RowKit
structure Slot where
  gen : Int
  opn : Bool
  loc : Int
deriving DecidableEq
def slotC (s : Slot) : List Value := [.int .i64 s.gen, .bool s.opn, .int .i64 s.loc]
def slotsC (l : List Slot) : List Value := l.flatMap slotC
theorem slotsC_length (l : List Slot) : (slotsC l).length = l.length * 3 := by
  induction l with
  | nil => rfl
  | cons a l ih => simp only [slotsC, List.flatMap_cons, List.length_append, List.length_cons] at ih ⊢; rw [ih]; simp [slotC]; omega
theorem slotsC_at (l : List Slot) (j i : Nat) (hj : j < l.length) (hi : i < 3) : (slotsC l)[j * 3 + i]? = (slotC l[j])[i]? := by
  induction l generalizing j with
  | nil => simp at hj
  | cons a l ih =>
    simp only [slotsC, List.flatMap_cons] at ih ⊢
    cases j with
    | zero => rw [List.getElem?_append_left (by simp [slotC]; omega)]; simp
    | succ j =>
      rw [List.getElem?_append_right (by simp [slotC]; omega)]
      have : (j + 1) * 3 + i - (slotC a).length = j * 3 + i := by simp [slotC]; omega
      rw [this]
      exact ih j (by simpa using hj)
theorem Reads.slot {w : World} {B : Nat} {A : Option Addr} {n j : Nat} {l : List Slot} (h : Reads w B 3 A n (slotsC l)) (hj : j < n) :
    ∃ ad s, A = some ad ∧ ad.block < B ∧ l[j]? = some s ∧ w.cell? (ad.add (j * 3)) = some (.int .i64 s.gen) ∧ w.cell? ⟨(ad.add (j * 3)).block, (ad.add (j * 3)).off + 1, none⟩ = some (.bool s.opn) ∧ w.cell? ⟨(ad.add (j * 3)).block, (ad.add (j * 3)).off + 2, none⟩ = some (.int .i64 s.loc) := by
  have hl : j < l.length := by have := h.1; rw [slotsC_length] at this; omega
  obtain ⟨ad, e, hb, hc⟩ := h.2 (by omega)
  refine ⟨ad, l[j], e, hb, List.getElem?_eq_getElem hl, ?_, ?_, ?_⟩
  · have := hc (j * 3 + 0) (.int .i64 l[j].gen) (by rw [slotsC_at l j 0 hl (by omega)]; rfl)
    exact this
  · have := hc (j * 3 + 1) _ (by rw [slotsC_at l j 1 hl (by omega)]; rfl)
    rw [← add_of_add] at this
    exact this
  · have := hc (j * 3 + 2) _ (by rw [slotsC_at l j 2 hl (by omega)]; rfl)
    rw [← add_of_add] at this
    exact this
def slotE (s : Slot) : Int :=
  if s.gen < 0 ∨ 65535 < s.gen ∨ s.loc < 0 ∨ 256 ≤ s.loc then 4
  else if (s.opn = true ∧ s.gen = 0) ∨ (s.opn = false ∧ s.loc ≠ 0) then 3 else 0
def slotsE : List Slot → Int
  | [] => 0
  | s :: r => if slotE s ≠ 0 then slotE s else slotsE r
def handE (l : List Slot) : Int := if 16 < l.length then 2 else slotsE l
theorem handThere_yes (x : Int) (w : World) (h : 0 ≤ x ∧ x < 256) : Calls Try.prog 40 #[.int .i64 x] w fun e w' => e = .returned (.bool true) ∧ w = w' := by
  obtain ⟨h1, h2⟩ := h
  go_enter Try.func40, Try.ntmps40
  go_wp2
  go_ret
  exact ⟨rfl, rfl⟩
theorem handThere_no (x : Int) (w : World) (h : x < 0 ∨ 256 ≤ x) : Calls Try.prog 40 #[.int .i64 x] w fun e w' => e = .returned (.bool false) ∧ w = w' := by
  have h' : x < 0 ∨ (0 ≤ x ∧ 256 ≤ x) := by omega
  clear h
  rcases h' with h | ⟨h1, h⟩
  all_goals
    go_enter Try.func40, Try.ntmps40
    go_wp2
    go_ret
    exact ⟨by first | rfl | (simp; omega), rfl⟩
set_option maxHeartbeats 400000 in
theorem handCheck_big (A : Option Addr) (n c : Nat) (w : World) (hn : 16 < n) :
    Calls Try.prog 39 #[.slice A n c] w fun e w' => e = .returned (.int .i64 2) ∧ Below w.heap.size w w' := by
  go_enter Try.func39, Try.ntmps39
  go_wp2
  go_ret
  exact ⟨rfl, Below.refl _ _⟩
set_option maxHeartbeats 1000000 in
theorem handCheck_small (A : Option Addr) (n c B : Nat) (l : List Slot) (w : World) (hr : Reads w B 3 A n (slotsC l)) (hB : B ≤ w.heap.size) (hn : n ≤ 16) :
    Calls Try.prog 39 #[.slice A n c] w fun e w' => e = .returned (.int .i64 (slotsE l)) ∧ Below w.heap.size w w' := by
  have hll : l.length = n := by have := hr.1; rw [slotsC_length] at this; omega
  have HL := Lib.hid hll
  clear hll
  go_enter Try.func39, Try.ntmps39
  go_wp2
  go_loopw [10] (fun i wr => ∃ j : Nat, j ≤ n ∧ i = .int .i64 j ∧ Below w.heap.size w wr ∧ slotsE (l.drop j) = slotsE l) (fun i _ => n - (intOf i).toNat)
  case atStart => exact ⟨0, Nat.zero_le _, rfl, Below.refl _ _, rfl⟩
  case round =>
    obtain ⟨j, hj, rfl, hb, hd⟩ := hrel
    have HD := Lib.hid hd
    clear hd
    by_cases hlt : j < n
    · obtain ⟨ad, s, rfl, had, hs, hc0, hc1, hc2⟩ := (hr.below (hb.mono hB)).slot hlt
      have HT : Hid (slotsE (l.drop j) = if slotE s ≠ 0 then slotE s else slotsE (l.drop (j + 1))) := by
        show _ = _
        obtain ⟨hl, rfl⟩ := List.getElem?_eq_some_iff.1 hs
        rw [List.drop_eq_getElem_cons hl]
        rfl
      clear hs
      obtain ⟨gen, opn, loc⟩ := s
      dsimp only at hc0 hc1 hc2
      have hbn := hb.trans (((Below.refl wr.heap.size wr).alloc (Nat.le_refl _) (.cells #[.int .i64 gen, .bool opn, .int .i64 loc] 50)).mono hb.size)
      by_cases h4 : gen < 0 ∨ 65535 < gen ∨ loc < 0 ∨ 256 ≤ loc
      · have HE : Hid (slotsE l = 4) := by
          show _ = _
          rw [← HD.out, HT.out]
          have : slotE ⟨gen, opn, loc⟩ = 4 := by unfold slotE; rw [if_pos h4]
          rw [this]
          rfl
        have h4' : (gen < 0 ∨ 65535 < gen) ∨ ((¬ gen < 0 ∧ ¬ 65535 < gen) ∧ (loc < 0 ∨ 256 ≤ loc)) := by
          by_cases hg : gen < 0 ∨ 65535 < gen
          · exact .inl hg
          · exact .inr ⟨by omega, by omega⟩
        clear h4
        rcases h4' with h4 | ⟨⟨g1, g2⟩, h4⟩
        · go_wp2_with fail
          all_goals
            go_ret
            exact ⟨ret_int HE.out.symm, hbn⟩
        · have H4 := Lib.hid h4
          clear h4
          go_wp2_with (go_at_call 40; refine (handThere_no _ _ H4.out).mono ?_; rintro e w' ⟨rfl, rfl⟩)
          all_goals
            go_ret
            exact ⟨ret_int HE.out.symm, hbn⟩
      · have g1 : ¬ gen < 0 := by omega
        have g2 : ¬ 65535 < gen := by omega
        have G3 : Hid (0 ≤ loc ∧ loc < 256) := by show _ ∧ _; omega
        by_cases h3 : (opn = true ∧ gen = 0) ∨ (opn = false ∧ loc ≠ 0)
        · have HE : Hid (slotsE l = 3) := by
            show _ = _
            rw [← HD.out, HT.out]
            have : slotE ⟨gen, opn, loc⟩ = 3 := by unfold slotE; rw [if_neg h4, if_pos h3]
            rw [this]
            rfl
          clear h4
          rcases h3 with ⟨rfl, rfl⟩ | ⟨rfl, h3⟩
          · go_wp2_with (go_at_call 40; refine (handThere_yes _ _ G3.out).mono ?_; rintro e w' ⟨rfl, rfl⟩)
            go_ret
            exact ⟨ret_int HE.out.symm, hbn⟩
          · have e1 : (loc != 0) = true := by simpa using h3
            have e2 : (loc == 0) = false := by simpa using h3
            go_wp2_with (go_at_call 40; refine (handThere_yes _ _ G3.out).mono ?_; rintro e w' ⟨rfl, rfl⟩)
            go_ret
            exact ⟨ret_int HE.out.symm, hbn⟩
        · have HE : Hid (slotsE (l.drop (j + 1)) = slotsE l) := by
            show _ = _
            rw [← HD.out, HT.out]
            have : slotE ⟨gen, opn, loc⟩ = 0 := by unfold slotE; rw [if_neg h4, if_neg h3]
            rw [this]
            rfl
          have h3' : (opn = true ∧ gen ≠ 0) ∨ (opn = false ∧ loc = 0) := by
            cases opn
            · exact .inr ⟨rfl, by simpa using h3⟩
            · exact .inl ⟨rfl, by simpa using h3⟩
          clear h4 h3
          rcases h3' with ⟨rfl, h3⟩ | ⟨rfl, rfl⟩
          · have e1 : (gen != 0) = true := by simpa using h3
            have e2 : (gen == 0) = false := by simpa using h3
            go_wp2_with (go_at_call 40; refine (handThere_yes _ _ G3.out).mono ?_; rintro e w' ⟨rfl, rfl⟩)
            go_roundw
            case rel => exact ⟨j + 1, by omega, by go_num, hbn, HE.out⟩
            case measure => simp [intOf]; omega
          · go_wp2_with (go_at_call 40; refine (handThere_yes _ _ G3.out).mono ?_; rintro e w' ⟨rfl, rfl⟩)
            go_roundw
            case rel => exact ⟨j + 1, by omega, by go_num, hbn, HE.out⟩
            case measure => simp [intOf]; omega
    · go_wp2
      go_ret
      refine ⟨ret_int ?_, hb⟩
      rw [← HD.out, List.drop_of_length_le (by rw [HL.out]; omega)]
      rfl
theorem handE_small (l : List Slot) (n : Nat) (h : l.length = n) (hn : n ≤ 16) : handE l = slotsE l := by unfold handE; rw [if_neg (by omega)]
theorem handCheck_any (A : Option Addr) (n c B : Nat) (l : List Slot) (w : World) (hr : Reads w B 3 A n (slotsC l)) (hB : B ≤ w.heap.size) :
    Calls Try.prog 39 #[.slice A n c] w fun e w' => e = .returned (.int .i64 (handE l)) ∧ Below w.heap.size w w' := by
  have hll : l.length = n := by have := hr.1; rw [slotsC_length] at this; omega
  by_cases h : 16 < n
  · rw [show handE l = 2 from by unfold handE; rw [if_pos (by omega)]]
    exact handCheck_big A n c w h
  · rw [handE_small l n hll (by omega)]
    exact handCheck_small A n c B l w hr hB (by omega)
theorem slotsE_ok {l : List Slot} : slotsE l = 0 ↔ ∀ s ∈ l, slotE s = 0 := by
  induction l with
  | nil => simp [slotsE]
  | cons a l ih =>
    unfold slotsE
    split
    · rename_i h
      constructor
      · intro h2; exact absurd h2 h
      · intro h2; exact absurd (h2 a (by simp)) h
    · rename_i h
      rw [ih]
      constructor
      · intro h2 s hs
        rcases List.mem_cons.1 hs with rfl | hs
        · simpa using h
        · exact h2 s hs
      · intro h2 s hs; exact h2 s (List.mem_cons_of_mem _ hs)
theorem handE_ok {l : List Slot} : handE l = 0 ↔ l.length ≤ 16 ∧ ∀ s ∈ l, slotE s = 0 := by
  unfold handE
  split
  · constructor
    · intro h; cases h
    · rintro ⟨h, _⟩; omega
  · rw [slotsE_ok]
    constructor
    · intro h; exact ⟨by omega, h⟩
    · intro h; exact h.2
def nameOf (i gen : Int) : Int := i + gen * 65536
def Found (l : List Slot) (n : Int) (i : Nat) (s : Slot) : Prop := n % 65536 = (i : Int) ∧ l[i]? = some s ∧ s.opn = true ∧ (i : Int) + s.gen * 65536 = n
end Go.Proofs.Ytbmkbnalembbjaa

namespace Go.Proofs.Ytbmkbnalembbjaa
open Go.RowKit
def slotFree (s : Slot) : Bool := !s.opn && decide (s.gen < 65535)
def freeIx (l : List Slot) : Int := match l.findIdx? slotFree with | some i => (i : Int) | none => -1
end Go.Proofs.Ytbmkbnalembbjaa

namespace Go.Proofs.Ytbmkbnalembbjaa
open Go.RowKit
def openE (l : List Slot) (loc : Int) : Int := if handE l ≠ 0 then handE l else if loc < 0 ∨ 256 ≤ loc then 4 else if freeIx l = -1 then 7 else 0
end Go.Proofs.Ytbmkbnalembbjaa
