/-
  Texts joined: DeskLine DeskOk DeskPlay DeskTrue SlicesStr Works.
-/
import Derived.Shelf.Strings.Split
import Derived.Ground.NamesProg
import Derived.Shelf.Lay
import Derived.Test.YtblkhipbhahmeaaGreatDoorRows
import Derived.Shelf.SlicesG.Delete
import Derived.Ground.SlgnProg
import Derived.Sort.OwnSorted
import Derived.Lib.OwnBridge
import Derived.Test.YtblkhipbhahmeaaGreatDoorU0
import Derived.Test.YtblkhipbhahmeaaGreatDoorU18
import Derived.Test.YtblkhipbhahmeaaGreatDoorU21
namespace Go.Proofs
open Go.RowKit Go.Shelf
shelf_lay Lays.n146 Nm 146 at Tryz as Tryz.splitL
end Go.Proofs
namespace Go.Proofs.YtblkhipbhahmeaaGreatDoor
open Go.RowKit
theorem splitB_small (sep : ByteArray) (save : Nat) : ∀ (k : Nat) (s p : ByteArray), p ∈ Lib.splitB sep save k s → p.size ≤ s.size
 | 0, s, p, h => by
   rw [Lib.splitB_zero, List.mem_singleton] at h
   rw [h]
   exact Nat.le_refl _
 | k + 1, s, p, h => by
   unfold Lib.splitB at h
   split at h
   ·rw [List.mem_singleton] at h
    rw [h]
    exact Nat.le_refl _
   ·rcases List.mem_cons.1 h with rfl | h
    ·rw [ByteArray.size_extract]; omega
    ·have := splitB_small sep save k _ p h
     rw [ByteArray.size_extract] at this
     omega
theorem wordsB_length (s : ByteArray) : (wordsB s).length = Lib.countB s ⟨#[32]⟩ + 1 := Lib.splitB_all ⟨#[32]⟩ (by decide) 0 _ s rfl
theorem wordsB_small {s p : ByteArray} (h : p ∈ wordsB s) : p.size ≤ s.size := splitB_small _ _ _ _ _ h
theorem split_any (s : ByteArray) (hs : s.size < 4294967281) (w : World) (hm : ∃ m, w.cell? ⟨1, 0, none⟩ = some (.int .i64 m)) :
  Calls Tryz.prog 61 #[.string s, .string ⟨#[32]⟩] w fun e w' => e = .returned (.slice (some ⟨w.heap.size, 0, none⟩) (wordsB s).length (wordsB s).length) ∧ w' = w.alloc (.cells ((wordsB s).map Value.string).toArray 9) := by
 obtain ⟨m, hm⟩ := hm
 have h := Any.strings_Split Tryz.splitL (by kernel_rfl) s ⟨#[32]⟩ m w hs hm (by decide)
 rw [← wordsB_length] at h
 exact h
def CmdOk : Cmd → Prop
 | .deed _ m v _ => m ≤ 4 ∧ ∀ j : Nat, j < m → (j : Int) ≠ v → cntV v j < 3
 | _ => True
theorem findIn_mem {x : List UInt8} {c : Cmd} : ∀ {l : List (List UInt8 × Cmd)}, findIn x l = some c → ∃ y, (y, c) ∈ l
 | [], h => by cases h
 | (y, c') :: l, h => by
   have h : (if (x == y) = true then some c' else findIn x l) = some c := h
   split at h
   ·obtain rfl := Option.some.inj h
    exact ⟨y, List.mem_cons_self ..⟩
   ·obtain ⟨y2, h2⟩ := findIn_mem h
    exact ⟨y2, List.mem_cons_of_mem _ h2⟩
theorem findC_ok {s : ByteArray} {c : Cmd} (h : findC s = some c) : CmdOk c := by
 obtain ⟨y, hy⟩ := findIn_mem h
 simp only [cmdsT, List.mem_cons, List.not_mem_nil, or_false, Prod.mk.injEq] at hy
 rcases hy with ⟨-, rfl⟩ | ⟨-, rfl⟩ | ⟨-, rfl⟩ | ⟨-, rfl⟩ | ⟨-, rfl⟩ | ⟨-, rfl⟩ | ⟨-, rfl⟩ | ⟨-, rfl⟩ | ⟨-, rfl⟩ | ⟨-, rfl⟩ | ⟨-, rfl⟩ | ⟨-, rfl⟩ | ⟨-, rfl⟩ | ⟨-, rfl⟩ | ⟨-, rfl⟩ | ⟨-, rfl⟩ | ⟨-, rfl⟩ <;> first | trivial | exact ⟨by decide, by decide⟩
theorem cmdIs_func {W : World} {base : Nat} {c : Cmd} {f : Value} (h : CmdIs W base c f) : ∃ F caps, f = .func (.func F) #[] caps := by
 cases c with
 | deed k m v t =>
   obtain ⟨pk, pv, pt, rfl, -⟩ := h
   exact ⟨_, _, rfl⟩
 | _ =>
   obtain rfl := h
   exact ⟨_, _, rfl⟩
theorem mapM_snoc {ws : List ByteArray} {ns : List Int} {j : Nat} {p : ByteArray} {m : Int} (h : (ws.take j).mapM numB = some ns) (hp : ws[j]? = some p) (hm : numB p = some m) : (ws.take (j + 1)).mapM numB = some (ns ++ [m]) := by
 obtain ⟨h1, rfl⟩ := List.getElem?_eq_some_iff.1 hp
 rw [List.take_succ_eq_append_getElem h1, List.mapM_append, h]
 simp [hm]
theorem mapM_none {ws : List ByteArray} {j : Nat} {p : ByteArray} (hp : ws[j]? = some p) (hm : numB p = none) : ws.mapM numB = none := by
 obtain ⟨h1, rfl⟩ := List.getElem?_eq_some_iff.1 hp
 have h2 : ws = ws.take j ++ ws[j] :: ws.drop (j + 1) := by rw [List.getElem_cons_drop, List.take_append_drop]
 rw [h2, List.mapM_append, List.mapM_cons, hm]
 cases (ws.take j).mapM numB <;> rfl
theorem CmdIs.below {w w' : World} {base : Nat} {c : Cmd} {f : Value} (h : CmdIs w base c f) (hb : Below w.heap.size w w') : CmdIs w' base c f := by
 cases c with
 | deed k m v t =>
   obtain ⟨pk, pv, pt, e, h1, h2, h3, B1, B2, B3⟩ := h
   exact ⟨pk, pv, pt, e, h1, h2, h3, B1.below hb B1.lt, B2.below hb B2.lt, B3.below hb B3.lt⟩
 | _ => exact h
theorem reads_tail {W : World} {g M : Nat} {t : TypeId} {w0 : ByteArray} {ws : List ByteArray} (hl : ws.length = M + 1) (h : Blk W g t ((w0 :: ws).map Value.string).toArray) : Reads W W.heap.size 1 (some ⟨g, 1, none⟩) (M + 1) (ws.map Value.string) :=
 ⟨by rw [List.length_map, hl, Nat.mul_one], fun _ => ⟨⟨g, 1, none⟩, rfl, h.lt, fun j u hu => by
   rw [Addr.add_lit, h.cell (1 + j), List.getElem?_toArray, List.map_cons, Nat.add_comm 1 j, List.getElem?_cons_succ]
   exact hu⟩⟩
theorem begin_nn (B D : Nat) (os : Option St) (n : List Int) (NA : Option Addr) (nn nc : Nat) (w : World) (hD : DeskAt w B D os) (hB : B ≤ w.heap.size) (hr : Reads w w.heap.size 1 NA nn (n.map (.int .i64))) (h3 : nn = 3) :
  Calls Tryz.prog 81 #[.pointer (some ⟨D, 0, none⟩), .slice NA nn nc] w (DeskPost w B D (cmdO os .new n)) := by
 subst h3
 exact begin_any B D os n NA nc w hD hB hr
theorem DeskPost.from {w w1 w' : World} {B D : Nat} {X : DOut} {e : Ending} (hb : Below w.heap.size w w1) (h : DeskPost w1 B D X e w') : DeskPost w B D X e w' := ⟨(grown_of_below hb _).trans h.1, h.2⟩
set_option maxRecDepth 100000 in
set_option maxHeartbeats 8000000 in
theorem ddo_any (B D : Nat) (os : Option St) (s : ByteArray) (hs : s.size < 4294967281) (w : World) (hD : DeskAt w B D os) (hB : B ≤ w.heap.size) (hT : DTab B w) :
  Calls Tryz.prog 51 #[.pointer (some ⟨D, 0, none⟩), .string s] w (DeskPost w B D (lineO os s)) := by
 have HT := Lib.hid hT
 have HSp := Lib.hid (split_any s hs w hT.m)
 have hwl := wordsB_length s
 have hcl := Lib.countB_le ⟨#[32]⟩ (by decide) s.size s (Nat.le_refl _)
 obtain ⟨w0, ws, hws⟩ : ∃ w0 ws, wordsB s = w0 :: ws := by
  cases h : wordsB s with
  | nil => rw [h] at hwl; simp at hwl
  | cons a b => exact ⟨a, b, rfl⟩
 have HSm : Hid (∀ p ∈ ws, p.size ≤ 281474976710656) := fun p hp => by
  have := wordsB_small (s := s) (p := p) (by rw [hws]; exact List.mem_cons_of_mem _ hp)
  omega
 have HX : Hid (lineO os s = match findC w0 with
  | none => ⟨os, [], 1⟩
  | some c => if ws.length + 1 ≠ c.many + 1 then ⟨os, [], 3⟩ else match ws.mapM numB with
    | none => ⟨os, [], 3⟩
    | some n => cmdO os c n) := by
  show _ = _
  unfold lineO
  rw [hws]
  rfl
 rw [hws] at HSp hwl
 rw [List.length_cons] at hwl HSp
 have hb1 := below_new w (.cells ((w0 :: ws).map Value.string).toArray 9)
 have DW := Blk.new w 9 ((w0 :: ws).map Value.string).toArray
 have hDk := hD.below hb1
 obtain ⟨W1, hW1⟩ : ∃ W1, W1 = w.alloc (.cells ((w0 :: ws).map Value.string).toArray 9) := ⟨_, rfl⟩
 rw [← hW1] at HSp hb1 DW hDk
 have hws32 : ws.length < 4294967281 := by omega
 have HF := Lib.hid (find_any w0)
 have d0 := DW.cell 0
 simp only [List.map_cons, List.getElem?_toArray, List.getElem?_cons_zero] at d0
 have HBs := Lib.hid hB
 clear hT hws hwl hcl hD hW1 hs hB
 obtain ⟨N, hN⟩ : ∃ N, N = ws.length := ⟨_, rfl⟩
 rw [← hN] at HSp hws32
 have HN := Lib.hid hN
 clear hN
 have hwN : wrap64 (N : Int) = N := IntWalk.wrap64_in _ (by omega)
 go_enter Tryz.func51, Tryz.ntmps51
 go_wp2_with fail
 refine HSp.out.mono ?_
 rintro e w1 ⟨rfl, rfl⟩
 go_wp2_with fail
 refine (HF.out _).mono ?_
 rintro e w2 ⟨hb2, ⟨hf, rfl⟩ | ⟨c, f, hf, rfl, hC⟩⟩
 ·have HA : Hid (∀ W4, Below w1.heap.size w1 W4 → DeskPost w B D (lineO os s) (.returned (.tuple #[.slice none 0 0, .int .i64 1])) W4) := fun W4 hb4 => by
   rw [HX.out, hf]
   exact ⟨grown_of_below (below_step hb1 hb4) _, hDk.below hb4, none, 0, 0, rfl, fun _ => Reads.none_⟩
  have hb3 := hb2.alloc hb2.size (.cells #[.int .i64 0, .bool false, .nilFunc] 132)
  clear hb2 hb1 hDk DW d0 HX hf
  go_wp2_with fail
  go_ret2
  exact HA.out _ hb3
 ·obtain ⟨F, caps, rfl⟩ := cmdIs_func hC
  have hb3 := hb2.alloc hb2.size (.cells #[.int .i64 c.many, .bool c.store, .func (.func F) #[] caps] 132)
  have hbC := below_new w2 (.cells #[.int .i64 c.many, .bool c.store, .func (.func F) #[] caps] 132)
  have DC := Blk.new w2 132 #[.int .i64 c.many, .bool c.store, .func (.func F) #[] caps]
  obtain ⟨k0, k1, k2⟩ : (w2.alloc (.cells #[.int .i64 c.many, .bool c.store, .func (.func F) #[] caps] 132)).cell? ⟨w2.heap.size, 0, none⟩ = some (.int .i64 c.many) ∧ (w2.alloc (.cells #[.int .i64 c.many, .bool c.store, .func (.func F) #[] caps] 132)).cell? ⟨w2.heap.size, 1, none⟩ = some (.bool c.store) ∧ (w2.alloc (.cells #[.int .i64 c.many, .bool c.store, .func (.func F) #[] caps] 132)).cell? ⟨w2.heap.size, 2, none⟩ = some (.func (.func F) #[] caps) := ⟨DC.cell 0, DC.cell 1, DC.cell 2⟩
  have HC : Hid (CmdIs (w2.alloc (.cells #[.int .i64 c.many, .bool c.store, .func (.func F) #[] caps] 132)) w1.heap.size c (.func (.func F) #[] caps)) := hC.below hbC
  have DW3 := DW.below hb3 DW.lt
  have hDk3 := hDk.below hb3
  have hb13 := below_step hb1 hb3
  have H3 : Hid (∀ W4 X, Below w1.heap.size w1 W4 → lineO os s = ⟨os, [], X⟩ → DeskPost w B D (lineO os s) (.returned (.tuple #[.slice none 0 0, .int .i64 X])) W4) := fun W4 X hb4 hX => by
   rw [hX]
   exact ⟨grown_of_below (below_step hb1 hb4) _, hDk.below hb4, none, 0, 0, rfl, fun _ => Reads.none_⟩
  have HB3 := Lib.hid hb3
  clear hb2 hbC DC hC hDk DW hb1 hb3
  by_cases hM : N = c.many
  ·have gm : ((N : Int) != (c.many : Int)) = false := by simp [hM]
   have HM := Lib.hid hM
   clear hM gm
   cases N with
   | zero =>
     have gm : ((0 : Int) != (c.many : Int)) = false := by have := HM.out; simp; omega
     have hlen : ws.length = 0 := HN.out.symm
     have hr : Reads (w2.alloc (.cells #[.int .i64 c.many, .bool c.store, .func (.func F) #[] caps] 132)) (w2.alloc (.cells #[.int .i64 c.many, .bool c.store, .func (.func F) #[] caps] 132)).heap.size 1 (some ⟨w.heap.size, 0, none⟩) (0) (ws.map Value.string) := by
      have h0 : ws = [] := List.eq_nil_of_length_eq_zero hlen
      rw [h0]
      exact Reads.none_
     obtain ⟨W3, hW3⟩ : ∃ W3, W3 = w2.alloc (.cells #[.int .i64 c.many, .bool c.store, .func (.func F) #[] caps] 132) := ⟨_, rfl⟩
     rw [← hW3] at hr hDk3 hb13 HC HB3 k0 k1 k2
     have HW3 := Lib.hid hW3
     have HL := Lib.hid hlen
     have H3b : Hid (∀ W4 X, Below W3.heap.size W3 W4 → lineO os s = ⟨os, [], X⟩ → DeskPost w B D (lineO os s) (.returned (.tuple #[.slice none 0 0, .int .i64 X])) W4) := fun W4 X hb4 hX => H3.out W4 X (below_step HB3.out hb4) hX
     have hTW := HT.out.on (hb13.mono HBs.out)
     clear hW3 hlen DW3 H3 d0
     go_wp2_with fail
     obtain ⟨i0, hi, hz0, hz1, hz2⟩ := info_parts info_int
     rw [← HW3.out]
     have hk2b : w2.heap.size < W3.heap.size := by rw [HW3.out, World.size_alloc]; omega
     clear HW3
     go_loopw [9, 11, 12, 13, 36] (fun o _ _ _ i wr => ∃ (j : Nat) (A5 : Option Addr) (c5 : Nat) (ns : List Int), j ≤ 0 ∧ i = .int .i64 j ∧ o = .slice A5 j c5 ∧ Hid ((ws.take j).mapM numB = some ns) ∧ Hid (∀ x ∈ ns, (Lit.int .i64 x).wf = true) ∧ wr.ownsRow W3.heap.size 3 1 (.slice A5 j c5) j (ns.map (.int .i64)) ∧ Below W3.heap.size W3 wr) (fun _ _ _ _ i _ => 0 - (intOf i).toNat)
     case atStart => exact ⟨0, none, 0, [], Nat.zero_le _, rfl, rfl, rfl, fun x hx => (by cases hx), World.ownsRow_nil _ _ _ _, Below.refl _ _⟩
     case round =>
      obtain ⟨j, A5, c5, ns, hj, rfl, rfl, HNs, HNw, hown, hb⟩ := hrel
      by_cases hlt : j < 0
      ·exact absurd hlt (Nat.not_lt_zero _)
      ·have hjn : j = 0 := by omega
       subst hjn
       have g0 : decide (0 < 0) = false := decide_eq_false (Nat.lt_irrefl _)
       have hX : lineO os s = cmdO os c ns := by
        rw [HX.out, hf]
        show (if ws.length + 1 ≠ c.many + 1 then (⟨os, [], 3⟩ : DOut) else match ws.mapM numB with | none => ⟨os, [], 3⟩ | some n => cmdO os c n) = _
        have h2 := HNs.out
        rw [List.take_of_length_le (by rw [HL.out]; exact Nat.le_refl _)] at h2
        rw [if_neg (fun h => h (by rw [← HN.out, HM.out])), h2]
       have HXX := Lib.hid hX
       have hrn := Reads.of_own hown
       have hDr := hDk3.below hb
       have hb0r := below_step hb13 hb
       have hBr := Nat.le_trans HBs.out hb0r.size
       have hTr := HT.out.on (hb0r.mono HBs.out)
       have hk0 := (hb.cell (p := ⟨w2.heap.size, 1, none⟩) hk2b).trans k1
       have hk2 := (hb.cell (p := ⟨w2.heap.size, 2, none⟩) hk2b).trans k2
       have HCr : Hid (CmdIs wr w1.heap.size c (.func (.func F) #[] caps)) := CmdIs.below HC.out hb
       have HOk := Lib.hid (findC_ok hf)
       have HML : Hid ((0 : Nat) = c.many) := HM.out
       clear hX HX hf HNs hown HC k0 k1 k2 hr hDk3 HL H3b HM
       cases c with
       | new => exact absurd HML.out (by decide)
       | deed k m v told =>
         obtain ⟨pk, pv, pt, hF, -, -, -, B1, B2, B3⟩ := HCr.out
         injection hF with e1 _ e3
         injection e1 with e1
         subst e1 e3
         have hk0 : wr.cell? ⟨w2.heap.size, 1, none⟩ = some (.bool true) := hk0
         cases os with
         | none =>
           have hd0 : wr.cell? ⟨D, 0, none⟩ = some (.bool false) := Blk.cell hDr.2 0
           have HA : Hid (DeskPost w B D (lineO none s) (.returned (.tuple #[.slice none 0 0, .int .i64 8])) wr) := by
            show DeskPost _ _ _ _ _ _
            rw [HXX.out]
            exact ⟨grown_of_below hb0r _, hDr, none, 0, 0, rfl, fun h => by cases h⟩
           clear HCr HOk hDr hrn hBr hTr hb0r
           go_wp2_with fail
           go_ret2
           exact HA.out
         | some S =>
           have hd0 : wr.cell? ⟨D, 0, none⟩ = some (.bool true) := by
            obtain ⟨-, -, _, _, _, _, _, _, _, _, _, _, _, _, h, -⟩ := hDr
            exact h.cell 0
           have hml : 0 = m := HML.out
           have HOk : Hid (m ≤ 4 ∧ ∀ j : Nat, j < m → (j : Int) ≠ v → cntV v j < 3) := HOk
           have HCt := Lib.hid (deedC_any B D pk pv pt k m v told ns A5 (0) c5 S wr hDr hBr hTr B1 B2 B3 hrn (by rw [hml]; exact HOk.out.1) (by rw [hml]; exact HOk.out.2) HNw.out)
           clear hml
           clear HCr HOk hDr hrn hBr hTr B1 B2 B3
           go_wp2_with fail
           refine HCt.out.mono ?_
           rintro e w6 ⟨h1, h2, A6, m6, c6, rfl, h3⟩
           have HA := Lib.hid (DeskPost.from hb0r ⟨h1, h2, A6, m6, c6, rfl, h3⟩)
           clear h1 h2 h3 HCt hb0r
           go_wp2_with fail
           go_ret2
           rw [HXX.out]
           exact HA.out
       | gaps =>
         have hF : Value.func (.func F) #[] caps = .func (.func 83) #[] #[] := HCr.out
         injection hF with e1 _ e3
         injection e1 with e1
         subst e1 e3
         have hk0 : wr.cell? ⟨w2.heap.size, 1, none⟩ = some (.bool true) := hk0
         cases os with
         | none =>
           have hd0 : wr.cell? ⟨D, 0, none⟩ = some (.bool false) := Blk.cell hDr.2 0
           have HA : Hid (DeskPost w B D (lineO none s) (.returned (.tuple #[.slice none 0 0, .int .i64 8])) wr) := by
            show DeskPost _ _ _ _ _ _
            rw [HXX.out]
            exact ⟨grown_of_below hb0r _, hDr, none, 0, 0, rfl, fun h => by cases h⟩
           clear HCr HOk hDr hrn hBr hTr hb0r
           go_wp2_with fail
           go_ret2
           exact HA.out
         | some S =>
           have hd0 : wr.cell? ⟨D, 0, none⟩ = some (.bool true) := by
            obtain ⟨-, -, _, _, _, _, _, _, _, _, _, _, _, _, h, -⟩ := hDr
            exact h.cell 0
           have HCt := Lib.hid (dgaps_any B D S (.slice A5 (0) c5) wr hDr)
           clear HCr HOk hDr hrn hBr hTr
           go_wp2_with fail
           refine HCt.out.mono ?_
           rintro e w6 ⟨h1, h2, A6, m6, c6, rfl, h3⟩
           have HA := Lib.hid (DeskPost.from hb0r ⟨h1, h2, A6, m6, c6, rfl, h3⟩)
           clear h1 h2 h3 HCt hb0r
           go_wp2_with fail
           go_ret2
           rw [HXX.out]
           exact HA.out
       | live =>
         have hF : Value.func (.func F) #[] caps = .func (.func 84) #[] #[] := HCr.out
         injection hF with e1 _ e3
         injection e1 with e1
         subst e1 e3
         have hk0 : wr.cell? ⟨w2.heap.size, 1, none⟩ = some (.bool true) := hk0
         cases os with
         | none =>
           have hd0 : wr.cell? ⟨D, 0, none⟩ = some (.bool false) := Blk.cell hDr.2 0
           have HA : Hid (DeskPost w B D (lineO none s) (.returned (.tuple #[.slice none 0 0, .int .i64 8])) wr) := by
            show DeskPost _ _ _ _ _ _
            rw [HXX.out]
            exact ⟨grown_of_below hb0r _, hDr, none, 0, 0, rfl, fun h => by cases h⟩
           clear HCr HOk hDr hrn hBr hTr hb0r
           go_wp2_with fail
           go_ret2
           exact HA.out
         | some S =>
           have hd0 : wr.cell? ⟨D, 0, none⟩ = some (.bool true) := by
            obtain ⟨-, -, _, _, _, _, _, _, _, _, _, _, _, _, h, -⟩ := hDr
            exact h.cell 0
           have HCt := Lib.hid (dlive_any B D S (.slice A5 (0) c5) wr hDr)
           clear HCr HOk hDr hrn hBr hTr
           go_wp2_with fail
           refine HCt.out.mono ?_
           rintro e w6 ⟨h1, h2, A6, m6, c6, rfl, h3⟩
           have HA := Lib.hid (DeskPost.from hb0r ⟨h1, h2, A6, m6, c6, rfl, h3⟩)
           clear h1 h2 h3 HCt hb0r
           go_wp2_with fail
           go_ret2
           rw [HXX.out]
           exact HA.out
       | roots =>
         have hF : Value.func (.func F) #[] caps = .func (.func 85) #[] #[] := HCr.out
         injection hF with e1 _ e3
         injection e1 with e1
         subst e1 e3
         have hk0 : wr.cell? ⟨w2.heap.size, 1, none⟩ = some (.bool true) := hk0
         cases os with
         | none =>
           have hd0 : wr.cell? ⟨D, 0, none⟩ = some (.bool false) := Blk.cell hDr.2 0
           have HA : Hid (DeskPost w B D (lineO none s) (.returned (.tuple #[.slice none 0 0, .int .i64 8])) wr) := by
            show DeskPost _ _ _ _ _ _
            rw [HXX.out]
            exact ⟨grown_of_below hb0r _, hDr, none, 0, 0, rfl, fun h => by cases h⟩
           clear HCr HOk hDr hrn hBr hTr hb0r
           go_wp2_with fail
           go_ret2
           exact HA.out
         | some S =>
           have hd0 : wr.cell? ⟨D, 0, none⟩ = some (.bool true) := by
            obtain ⟨-, -, _, _, _, _, _, _, _, _, _, _, _, _, h, -⟩ := hDr
            exact h.cell 0
           have HCt := Lib.hid (droots_any B D S (.slice A5 (0) c5) wr hDr)
           clear HCr HOk hDr hrn hBr hTr
           go_wp2_with fail
           refine HCt.out.mono ?_
           rintro e w6 ⟨h1, h2, A6, m6, c6, rfl, h3⟩
           have HA := Lib.hid (DeskPost.from hb0r ⟨h1, h2, A6, m6, c6, rfl, h3⟩)
           clear h1 h2 h3 HCt hb0r
           go_wp2_with fail
           go_ret2
           rw [HXX.out]
           exact HA.out
   | succ M =>
     have gm : (((M : Int) + 1) != (c.many : Int)) = false := by have := HM.out; simp; omega
     have hlen : ws.length = M + 1 := HN.out.symm
     have hr : Reads (w2.alloc (.cells #[.int .i64 c.many, .bool c.store, .func (.func F) #[] caps] 132)) (w2.alloc (.cells #[.int .i64 c.many, .bool c.store, .func (.func F) #[] caps] 132)).heap.size 1 (some ⟨w.heap.size, 1, none⟩) (M + 1) (ws.map Value.string) := reads_tail hlen DW3
     obtain ⟨W3, hW3⟩ : ∃ W3, W3 = w2.alloc (.cells #[.int .i64 c.many, .bool c.store, .func (.func F) #[] caps] 132) := ⟨_, rfl⟩
     rw [← hW3] at hr hDk3 hb13 HC HB3 k0 k1 k2
     have HW3 := Lib.hid hW3
     have HL := Lib.hid hlen
     have H3b : Hid (∀ W4 X, Below W3.heap.size W3 W4 → lineO os s = ⟨os, [], X⟩ → DeskPost w B D (lineO os s) (.returned (.tuple #[.slice none 0 0, .int .i64 X])) W4) := fun W4 X hb4 hX => H3.out W4 X (below_step HB3.out hb4) hX
     have hTW := HT.out.on (hb13.mono HBs.out)
     clear hW3 hlen DW3 H3 d0
     go_wp2_with fail
     obtain ⟨i0, hi, hz0, hz1, hz2⟩ := info_parts info_int
     rw [← HW3.out]
     have hk2b : w2.heap.size < W3.heap.size := by rw [HW3.out, World.size_alloc]; omega
     clear HW3
     go_loopw [9, 11, 12, 13, 36] (fun o _ _ _ i wr => ∃ (j : Nat) (A5 : Option Addr) (c5 : Nat) (ns : List Int), j ≤ M + 1 ∧ i = .int .i64 j ∧ o = .slice A5 j c5 ∧ Hid ((ws.take j).mapM numB = some ns) ∧ Hid (∀ x ∈ ns, (Lit.int .i64 x).wf = true) ∧ wr.ownsRow W3.heap.size 3 1 (.slice A5 j c5) j (ns.map (.int .i64)) ∧ Below W3.heap.size W3 wr) (fun _ _ _ _ i _ => M + 1 - (intOf i).toNat)
     case atStart => exact ⟨0, none, 0, [], Nat.zero_le _, rfl, rfl, rfl, fun x hx => (by cases hx), World.ownsRow_nil _ _ _ _, Below.refl _ _⟩
     case round =>
      obtain ⟨j, A5, c5, ns, hj, rfl, rfl, HNs, HNw, hown, hb⟩ := hrel
      by_cases hlt : j < M + 1
      ·obtain ⟨ad, u, hA, had, hu, c0⟩ := (hr.below hb).at_ hlt
       obtain rfl := Option.some.inj hA
       rw [Addr.add_lit] at c0
       obtain ⟨p, hp, hup⟩ : ∃ p, ws[j]? = some p ∧ u = .string p := by
        rw [List.getElem?_map, Option.map_eq_some_iff] at hu
        obtain ⟨p, h1, h2⟩ := hu
        exact ⟨p, h1, h2.symm⟩
       subst hup
       have HP := Lib.hid hp
       have HNm := Lib.hid (numeral_any p (HSm.out p (List.mem_of_getElem? hp)) wr (hTW.on (hb.mono (Nat.le_trans HBs.out hb13.size))).n)
       have hbr := hb
       clear hu hA hp
       cases hq : numB p with
       | none =>
         rw [hq] at HNm
         have hX : lineO os s = ⟨os, [], 3⟩ := by
          rw [HX.out, hf]
          show (if ws.length + 1 ≠ c.many + 1 then (⟨os, [], 3⟩ : DOut) else match ws.mapM numB with | none => ⟨os, [], 3⟩ | some n => cmdO os c n) = _
          rw [if_neg (fun h => h (by rw [← HN.out, HM.out])), mapM_none HP.out hq]
         have HA := Lib.hid (fun W4 hb4 => H3b.out W4 3 hb4 hX)
         clear hX HX hq H3b hown hb HNs HNw
         go_wp2_with fail
         refine HNm.out.mono ?_
         rintro e w5 ⟨hb5, x, rfl, -, -⟩
         have hb35 := below_step hbr hb5
         go_wp2_with fail
         go_ret2
         exact HA.out _ hb35
       | some m =>
         rw [hq] at HNm
         have HN2 : Hid ((ws.take (j + 1)).mapM numB = some (ns ++ [m])) := mapM_snoc HNs.out HP.out hq
         clear hq
         go_wp2_with fail
         refine HNm.out.mono ?_
         rintro e w5 ⟨hb5, x, rfl, hx, hxw⟩
         obtain rfl := hx m rfl
         have hown0 := (own_below hown hb5).alloc (.cells #[.int .i64 x] 3)
         have hb35 := below_step hbr hb5
         have hb2 := hb35.alloc hb35.size (.cells #[.int .i64 x] 3)
         have hnew := reads_new w5 [.int .i64 x] 3 1 1 rfl
         have HNw2 : Hid (∀ y ∈ ns ++ [x], (Lit.int .i64 y).wf = true) := fun y hy => by
          rcases List.mem_append.1 hy with h | h
          ·exact HNw.out y h
          ·rw [List.mem_singleton] at h
           rw [h]; exact hxw
         clear hown hb hbr hb5 hb35 hx hxw HNs HNw HNm
         go_wp2_with (at_builtin; refine wpList_append_any _ rfl (.tmp 47) (.tmp 49) 23 rfl W3.heap.size 3 i0 (.int .i64 0) 1 8 Tryz.underlying23 hi hz0 hz1 hz2 rfl (by decide) (.slice A5 j c5) j _ rfl hown0 _ (some ⟨w5.heap.size, 0, none⟩) 1 1 [.int .i64 x] rfl hnew (by simp [Value.oneCell']) (by unfold maxLen; omega) (by omega) hb2.size ?_; rintro v' w6 hO5 hg5 - -; obtain ⟨A6, c6, rfl⟩ := own_slice hO5)
         have hb3 := hb2.grown hg5 hb2.size (fun g hg => (hown0.lt g hg).1)
         have HO := Lib.hid hO5
         clear hO5 hown0 hg5 hnew hb2
         go_roundw
         case rel => exact ⟨j + 1, A6, c6, ns ++ [x], by omega, by go_num, rfl, HN2, HNw2, by rw [List.map_append]; exact HO.out, hb3⟩
         case measure => simp [intOf]; omega
      ·have hjn : j = M + 1 := by omega
       subst hjn
       have g0 : decide (M + 1 < M + 1) = false := decide_eq_false (Nat.lt_irrefl _)
       have hX : lineO os s = cmdO os c ns := by
        rw [HX.out, hf]
        show (if ws.length + 1 ≠ c.many + 1 then (⟨os, [], 3⟩ : DOut) else match ws.mapM numB with | none => ⟨os, [], 3⟩ | some n => cmdO os c n) = _
        have h2 := HNs.out
        rw [List.take_of_length_le (by rw [HL.out]; exact Nat.le_refl _)] at h2
        rw [if_neg (fun h => h (by rw [← HN.out, HM.out])), h2]
       have HXX := Lib.hid hX
       have hrn := Reads.of_own hown
       have hDr := hDk3.below hb
       have hb0r := below_step hb13 hb
       have hBr := Nat.le_trans HBs.out hb0r.size
       have hTr := HT.out.on (hb0r.mono HBs.out)
       have hk0 := (hb.cell (p := ⟨w2.heap.size, 1, none⟩) hk2b).trans k1
       have hk2 := (hb.cell (p := ⟨w2.heap.size, 2, none⟩) hk2b).trans k2
       have HCr : Hid (CmdIs wr w1.heap.size c (.func (.func F) #[] caps)) := CmdIs.below HC.out hb
       have HOk := Lib.hid (findC_ok hf)
       have HML : Hid ((M + 1 : Nat) = c.many) := HM.out
       clear hX HX hf HNs hown HC k0 k1 k2 hr hDk3 HL H3b HM
       cases c with
       | new =>
         have hF : Value.func (.func F) #[] caps = .func (.func 81) #[] #[] := HCr.out
         injection hF with e1 _ e3
         injection e1 with e1
         subst e1 e3
         have hk0 : wr.cell? ⟨w2.heap.size, 1, none⟩ = some (.bool false) := hk0
         have HCt := Lib.hid (begin_nn B D os ns A5 (M + 1) c5 wr hDr hBr hrn HML.out)
         clear HCr HOk hDr hrn hBr hTr
         go_wp2_with fail
         refine HCt.out.mono ?_
         rintro e w6 ⟨h1, h2, A6, m6, c6, rfl, h3⟩
         have HA := Lib.hid (DeskPost.from hb0r ⟨h1, h2, A6, m6, c6, rfl, h3⟩)
         clear h1 h2 h3 HCt hb0r
         go_wp2_with fail
         go_ret2
         rw [HXX.out]
         exact HA.out
       | deed k m v told =>
         obtain ⟨pk, pv, pt, hF, -, -, -, B1, B2, B3⟩ := HCr.out
         injection hF with e1 _ e3
         injection e1 with e1
         subst e1 e3
         have hk0 : wr.cell? ⟨w2.heap.size, 1, none⟩ = some (.bool true) := hk0
         cases os with
         | none =>
           have hd0 : wr.cell? ⟨D, 0, none⟩ = some (.bool false) := Blk.cell hDr.2 0
           have HA : Hid (DeskPost w B D (lineO none s) (.returned (.tuple #[.slice none 0 0, .int .i64 8])) wr) := by
            show DeskPost _ _ _ _ _ _
            rw [HXX.out]
            exact ⟨grown_of_below hb0r _, hDr, none, 0, 0, rfl, fun h => by cases h⟩
           clear HCr HOk hDr hrn hBr hTr hb0r
           go_wp2_with fail
           go_ret2
           exact HA.out
         | some S =>
           have hd0 : wr.cell? ⟨D, 0, none⟩ = some (.bool true) := by
            obtain ⟨-, -, _, _, _, _, _, _, _, _, _, _, _, _, h, -⟩ := hDr
            exact h.cell 0
           have hml : M + 1 = m := HML.out
           have HOk : Hid (m ≤ 4 ∧ ∀ j : Nat, j < m → (j : Int) ≠ v → cntV v j < 3) := HOk
           have HCt := Lib.hid (deedC_any B D pk pv pt k m v told ns A5 (M + 1) c5 S wr hDr hBr hTr B1 B2 B3 hrn (by rw [hml]; exact HOk.out.1) (by rw [hml]; exact HOk.out.2) HNw.out)
           clear hml
           clear HCr HOk hDr hrn hBr hTr B1 B2 B3
           go_wp2_with fail
           refine HCt.out.mono ?_
           rintro e w6 ⟨h1, h2, A6, m6, c6, rfl, h3⟩
           have HA := Lib.hid (DeskPost.from hb0r ⟨h1, h2, A6, m6, c6, rfl, h3⟩)
           clear h1 h2 h3 HCt hb0r
           go_wp2_with fail
           go_ret2
           rw [HXX.out]
           exact HA.out
       | gaps => exact absurd HML.out (Nat.succ_ne_zero M)
       | live => exact absurd HML.out (Nat.succ_ne_zero M)
       | roots => exact absurd HML.out (Nat.succ_ne_zero M)
  ·have gm : ((N : Int) != (c.many : Int)) = true := by simp; omega
   have hX : lineO os s = ⟨os, [], 3⟩ := by
    rw [HX.out, hf]
    show (if ws.length + 1 ≠ c.many + 1 then (⟨os, [], 3⟩ : DOut) else _) = _
    rw [if_pos (by rw [← HN.out]; omega)]
   have HA := Lib.hid (H3.out _ 3 HB3.out hX)
   clear hX HX hM H3 HB3 DW3 hDk3 hb13
   go_wp2_with fail
   go_ret2
   exact HA.out
def Sm (E : Int) : Prop := 0 ≤ E ∧ E ≤ 10
theorem Sm.ite {p : Prop} [Decidable p] {a b : Int} (ha : Sm a) (hb : Sm b) : Sm (if p then a else b) := by split <;> assumption
theorem Out.sm {p : Prop} [Decidable p] {a b : Out} (ha : Sm a.er) (hb : Sm b.er) : Sm (if p then a else b).er := by split <;> assumption
theorem sm0 : Sm 0 := ⟨by decide, by decide⟩
theorem sm1 : Sm 1 := ⟨by decide, by decide⟩
theorem sm2 : Sm 2 := ⟨by decide, by decide⟩
theorem sm3 : Sm 3 := ⟨by decide, by decide⟩
theorem sm4 : Sm 4 := ⟨by decide, by decide⟩
theorem sm5 : Sm 5 := ⟨by decide, by decide⟩
theorem sm7 : Sm 7 := ⟨by decide, by decide⟩
theorem sm8 : Sm 8 := ⟨by decide, by decide⟩
theorem sm9 : Sm 9 := ⟨by decide, by decide⟩
theorem headE_sm (r b t : Int) (f : Bool) : Sm (headE r b t f) := sm4.ite (sm3.ite (sm2.ite sm0))
theorem slotE_sm (s : Slot) : Sm (slotE s) := sm4.ite (sm3.ite sm0)
theorem slotsE_sm : ∀ l, Sm (slotsE l)
 | [] => sm0
 | s :: r => (slotE_sm s).ite (slotsE_sm r)
theorem handE_sm (l : List Slot) : Sm (handE l) := sm2.ite (slotsE_sm l)
theorem pinGo_sm : ∀ (pv : Option Int) (l : List Rn), Sm (pinGo pv l)
 | _, [] => sm0
 | _, _ :: t => sm4.ite (sm3.ite (pinGo_sm _ t))
theorem pinE_sm (l : List Rn) : Sm (pinE l) := sm2.ite (pinGo_sm _ l)
theorem findE_sm (l : List Rn) (x : Int) : Sm (findE l x) := by
 unfold findE
 exact (pinE_sm l).ite (sm0.ite sm4)
section
variable {S : St}
theorem objE_sm (h : Sm (stE S)) (slot : Int) : Sm (objE S slot) := h.ite (sm5.ite (sm5.ite sm0))
theorem slotTE_sm (h : Sm (stE S)) (slot : Int) : Sm (slotTE S slot) := h.ite (sm5.ite sm0)
theorem refE_sm (h : Sm (stE S)) (a b c : Int) : Sm (refE S a b c) := (objE_sm h a).ite (sm4.ite (sm5.ite sm0))
theorem bodyE_sm (h : Sm (stE S)) (a b : Int) : Sm (bodyE S a b) := (objE_sm h a).ite (sm4.ite sm0)
theorem makeE_sm (h : Sm (stE S)) (slot r b t : Int) (f : Bool) : Sm (makeE S slot r b t f) := h.ite (sm5.ite ((headE_sm r b t f).ite (sm3.ite sm0)))
theorem openE_sm (l : List Slot) (x : Int) : Sm (openE l x) := (handE_sm l).ite (sm4.ite (sm7.ite sm0))
theorem doO_sm (h : Sm (stE S)) (o : OpV) : Sm (doO S o).er := by
 unfold doO
 refine Out.sm sm1 ?_
 refine Out.sm (Out.sm (makeE_sm h _ _ _ _ _) (Out.sm sm0 (Out.sm sm0 sm7))) ?_
 refine Out.sm (Out.sm h sm0) ?_
 refine Out.sm (Out.sm (refE_sm h _ _ _) sm0) ?_
 refine Out.sm (Out.sm (refE_sm h _ _ _) sm0) ?_
 refine Out.sm (Out.sm (bodyE_sm h _ _) sm0) ?_
 refine Out.sm (Out.sm (bodyE_sm h _ _) sm0) ?_
 refine Out.sm (Out.sm (objE_sm h _) (Out.sm sm0 ((findE_sm _ _).ite sm7))) ?_
 refine Out.sm (Out.sm h (Out.sm sm0 ((findE_sm _ _).ite sm5))) ?_
 refine Out.sm (Out.sm h (Out.sm sm8 (Out.sm sm4 sm0))) ?_
 refine Out.sm (Out.sm (objE_sm h _) (Out.sm (openE_sm _ _) sm0)) ?_
 refine Out.sm (Out.sm (slotTE_sm h _) ?_) ?_
 ·split
  ·exact sm0
  ·exact sm9
 refine Out.sm (Out.sm h ?_) ?_
 ·split
  ·exact sm0
  ·exact sm9
 exact Out.sm (slotTE_sm h _) sm0
end
structure LineOk (X : DOut) : Prop where
 er : Sm X.er
 l : ∀ x ∈ X.l, -9223372036854775808 ≤ x ∧ x ≤ 9223372036854775807
 len : X.l.length ≤ 1000
theorem LineOk.none_ (os : Option St) {E : Int} (h : Sm E) : LineOk ⟨os, [], E⟩ := ⟨h, fun x hx => (by cases hx), Nat.zero_le _⟩
theorem newE_sm (W R H : Int) : Sm (newE W R H) := sm4.ite (sm4.ite (sm4.ite sm0))
theorem wrap_small (x : Int) : -9223372036854775808 ≤ IntKind.i64.wrap x ∧ IntKind.i64.wrap x ≤ 9223372036854775807 := by
 rw [IntWalk.i64_left]
 unfold wrap64
 omega
theorem sweep_small (S : St) (h : (S.a.length : Int) ≤ 256) : 0 ≤ (sweep S).2 ∧ (sweep S).2 ≤ 256 := by
 by_cases hx : ∃ p : St × Int, ∃ L Y now : List Int, Coll S p.1 p.2 L Y now
 ·obtain ⟨p, L, Y, now, hC⟩ := hx
  obtain ⟨f0, f1, f2, -⟩ := hC.free
  rw [hC.sweep]
  dsimp only
  omega
 ·unfold sweep
  rw [dif_neg hx]
  dsimp only
  omega
theorem cmdO_ok {os : Option St} (h : DGood os) (c : Cmd) (n : List Int) : LineOk (cmdO os c n) := by
 cases c with
 | new =>
   have e : cmdO os .new n = if newE (n.getD 0 0) (n.getD 1 0) (n.getD 2 0) ≠ 0 then ⟨os, [], newE (n.getD 0 0) (n.getD 1 0) (n.getD 2 0)⟩ else ⟨some (newSt (n.getD 0 0).toNat (n.getD 1 0).toNat (n.getD 2 0).toNat), [], 0⟩ := by cases os <;> rfl
   rw [e]
   split
   ·exact LineOk.none_ _ (newE_sm _ _ _)
   ·exact LineOk.none_ _ sm0
 | deed k m v told =>
   cases os with
   | none => exact LineOk.none_ _ sm8
   | some S =>
     have hG := h S rfl
     show LineOk (if negV v n = true then _ else if (doO S (deedV k v n)).er ≠ 0 then _ else _)
     split
     ·exact LineOk.none_ _ sm4
     ·split
      ·exact LineOk.none_ _ (doO_sm (by rw [stE_ok.2 hG.ok]; exact sm0) _)
      ·refine ⟨sm0, fun x hx => ?_, ?_⟩
       ·dsimp only at hx
        split at hx
        ·rw [List.mem_singleton] at hx
         rw [hx]
         exact wrap_small _
        ·cases hx
       ·dsimp only
        split <;> simp
 | gaps =>
   cases os with
   | none => exact LineOk.none_ _ sm8
   | some S =>
     have hG := h S rfl
     refine ⟨sm0, fun x hx => ?_, ?_⟩
     ·obtain ⟨r, hr, hx⟩ := List.mem_flatMap.1 hx
      obtain ⟨i, n, rfl, h1, h2⟩ := gap_facts hG.ok.arena hr
      have hl := hG.ok.lens.1
      simp only [List.mem_cons, List.not_mem_nil, or_false] at hx
      rcases hx with rfl | rfl <;> omega
     ·have h1 : ∀ l : List Rn, (l.flatMap fun r => [r.loc, r.len]).length = l.length * 2 := fun l => by
       induction l with
       | nil => rfl
       | cons r l ih => rw [List.flatMap_cons, List.length_append, ih, List.length_cons]; simp; omega
      have h1 : (gapsV S).length = (ggL S.a).length * 2 := h1 _
      have h2 := ggL_length (a := S.a)
      show (gapsV S).length ≤ 1000
      omega
 | live =>
   cases os with
   | none => exact LineOk.none_ _ sm8
   | some S =>
     have hG := h S rfl
     refine ⟨sm0, fun x hx => ?_, by show 1 ≤ 1000; decide⟩
     have hx : x ∈ [(S.a.length : Int) - (sweep S).2] := hx
     rw [List.mem_singleton] at hx
     have hl := hG.ok.lens.1
     have hs := sweep_small S (by omega)
     subst hx
     omega
 | roots =>
   cases os with
   | none => exact LineOk.none_ _ sm8
   | some S =>
     have hG := h S rfl
     obtain ⟨h0, h1, h2, h3⟩ := rootE_ok hG.ok.roots
     refine ⟨sm0, fun x hx => ?_, by show S.r.length ≤ 1000; omega⟩
     have := h3 x hx
     omega
theorem lineO_ok {os : Option St} (h : DGood os) (s : ByteArray) : LineOk (lineO os s) := by
 unfold lineO
 split
 ·exact LineOk.none_ _ sm1
 ·split
  ·exact LineOk.none_ _ sm3
  ·split
   ·exact LineOk.none_ _ sm3
   ·exact cmdO_ok h _ _
theorem DeskAt.good {w : World} {B D : Nat} {os : Option St} (h : DeskAt w B D os) : DGood os := fun S e => by
 subst e
 exact h.2.1
theorem okB_snoc : ∀ (l : List Int) (n : Int) (out : ByteArray), okB out (l ++ [n]) = okB out l ++ (⟨#[32]⟩ ++ itoaB n)
 | [], _, _ => rfl
 | _ :: l, n, _ => okB_snoc l n _
theorem okB_size : ∀ (l : List Int) (out : ByteArray), (∀ x ∈ l, -9223372036854775808 ≤ x ∧ x ≤ 9223372036854775807) → (okB out l).size ≤ out.size + l.length * 22
 | [], out, _ => by simp [okB]
 | x :: l, out, h => by
   have h1 := okB_size l (out ++ (⟨#[32]⟩ ++ itoaB x)) (fun y hy => h y (List.mem_cons_of_mem _ hy))
   have h2 := itoaB_size (h x List.mem_cons_self).1 (h x List.mem_cons_self).2
   rw [ByteArray.size_append, ByteArray.size_append] at h1
   have h3 : (⟨#[32]⟩ : ByteArray).size = 1 := rfl
   rw [List.length_cons]
   show (okB (out ++ (⟨#[32]⟩ ++ itoaB x)) l).size ≤ _
   omega
set_option maxRecDepth 100000 in
set_option maxHeartbeats 2000000 in
theorem dDo_any (B D : Nat) (os : Option St) (s : ByteArray) (hs : s.size < 4294967281) (w : World) (hD : DeskAt w B D os) (hB : B ≤ w.heap.size) (hT : DTab B w) :
  Calls Tryz.prog 34 #[.pointer (some ⟨D, 0, none⟩), .string s] w fun e w' => w.grownBy w' (some D) ∧ DeskAt w' B D (lineO os s).st ∧ e = .returned (.string (replyB (lineO os s))) := by
 have HL := Lib.hid (ddo_any B D os s hs w hD hB hT)
 have HO := Lib.hid (lineO_ok hD.good s)
 have HBD := Lib.hid hD.1
 have HR : Hid (replyB (lineO os s) = if (lineO os s).er ≠ 0 then ⟨#[101, 114, 114, 32]⟩ ++ itoaB (lineO os s).er else okB ⟨#[111, 107]⟩ (lineO os s).l) := rfl
 generalize replyB (lineO os s) = Y at *
 generalize lineO os s = X at *
 have HT := Lib.hid hT
 have HBw := Lib.hid hB
 clear hD hB hT
 go_enter Tryz.func34, Tryz.ntmps34
 go_wp2_with fail
 refine HL.out.mono ?_
 rintro e w1 ⟨hg, hDk, A, m, c, rfl, hr⟩
 have hb := below_of_grown hg HBw.out HBD.out
 have hT1 := HT.out.on hb
 by_cases hE : X.er = 0
 ·have gE : (X.er != 0) = false := by simpa using hE
  have hr := hr hE
  have hRY : Y = okB ⟨#[111, 107]⟩ X.l := by rw [HR.out, if_neg (fun h => h hE)]
  have hlen : X.l.length = m := by have := hr.1; simpa using this
  have HLn := Lib.hid hlen
  have hm9 : m ≤ 1000 := by have := HO.out.len; omega
  have HI := Lib.hid (fun n (h : -9223372036854775808 ≤ n ∧ n ≤ 9223372036854775807) wr (hb1 : Below w1.heap.size w1 wr) => itoa_any n h.1 h.2 wr (hT1.n.below hb1))
  have HRY := Lib.hid hRY
  have HG := Lib.hid hg
  have HDk := Lib.hid hDk
  clear hE hlen hRY hT1 hb hg hDk
  go_wp2_with fail
  go_loopw [7, 9, 23] (fun o _ i wr => ∃ (j : Nat), j ≤ m ∧ i = .int .i64 j ∧ o = .string (okB ⟨#[111, 107]⟩ (X.l.take j)) ∧ Below w1.heap.size w1 wr) (fun _ _ i _ => m - (intOf i).toNat)
  case atStart => exact ⟨0, Nat.zero_le _, rfl, rfl, Below.refl _ _⟩
  case round =>
   obtain ⟨j, hj, rfl, rfl, hb⟩ := hrel
   by_cases hlt : j < m
   ·obtain ⟨ad, x, rfl, had, hx, c0⟩ := (hr.below hb).num hlt
    have hxs := HO.out.l x (List.mem_of_getElem? hx)
    have HIx := Lib.hid (HI.out x hxs wr hb)
    have hsz := itoaB_size hxs.1 hxs.2
    have hso := okB_size (X.l.take j) ⟨#[111, 107]⟩ (fun y hy => HO.out.l y (List.mem_of_mem_take hy))
    have HN2 : Hid (okB ⟨#[111, 107]⟩ (X.l.take (j + 1)) = okB ⟨#[111, 107]⟩ (X.l.take j) ++ (⟨#[32]⟩ ++ itoaB x)) := by
     show _ = _
     obtain ⟨h1, rfl⟩ := List.getElem?_eq_some_iff.1 hx
     rw [List.take_succ_eq_append_getElem h1, okB_snoc]
    clear hx hxs
    generalize itoaB x = t at *
    generalize okB ⟨#[111, 107]⟩ (X.l.take j) = u at *
    go_wp2_with fail
    refine HIx.out.mono ?_
    rintro e w2 ⟨rfl, hb2⟩
    have hb3 := hb.trans (hb2.mono hb.size)
    have h1 : ByteArray.size ⟨#[32]⟩ = 1 := rfl
    have h2 : ByteArray.size ⟨#[111, 107]⟩ = 2 := rfl
    have hl1 : (X.l.take j).length ≤ 1000 := by rw [List.length_take]; have := HO.out.len; omega
    have hq1 : ¬ (9223372036854775807 < (⟨#[32]⟩ : ByteArray).size + t.size) := by omega
    have hq2 : ¬ (9223372036854775807 < u.size + (⟨#[32]⟩ ++ t : ByteArray).size) := by rw [ByteArray.size_append]; omega
    clear hb hb2 hsz hso h1 h2 hl1
    go_wp2_with fail
    go_roundw
    case rel => exact ⟨j + 1, by omega, by go_num, by rw [HN2.out], hb3⟩
    case measure => simp [intOf]; omega
   ·have hjn : j = m := by omega
    subst hjn
    rw [List.take_of_length_le (by rw [HLn.out]; exact Nat.le_refl _), ← HRY.out]
    go_wp2_with fail
    go_ret
    exact ⟨HG.out.trans (grown_of_below hb _), HDk.out.below hb, rfl⟩
 ·have gE : (X.er != 0) = true := by simpa using hE
  have hRY : Y = ⟨#[101, 114, 114, 32]⟩ ++ itoaB X.er := by rw [HR.out, if_pos hE]
  have hes := HO.out.er
  have HI := Lib.hid (itoa_any X.er (by have := hes.1; omega) (by have := hes.2; omega) w1 hT1.n)
  have hsz := itoaB_size (n := X.er) (by have := hes.1; omega) (by have := hes.2; omega)
  have HRY := Lib.hid hRY
  have HG := Lib.hid hg
  have HDk := Lib.hid hDk
  clear hE hRY hT1 hb hg hDk hes hr
  go_wp2_with fail
  refine HI.out.mono ?_
  rintro e w2 ⟨rfl, hb2⟩
  generalize itoaB X.er = t at *
  go_wp2_with fail
  go_ret
  exact ⟨HG.out.trans (grown_of_below hb2 _), HDk.out.below hb2, by rw [HRY.out]; rfl⟩
theorem DTab.up {w w' : World} (h : DTab w.heap.size w) (hb : Below w.heap.size w w') : DTab w'.heap.size w' := by
 have h1 := h.on hb
 have hs := hb.size
 exact ⟨h1.f, h1.n, h1.m, by obtain ⟨a, b, c, d, e⟩ := h1.l; exact ⟨by omega, by omega, by omega, by omega, by omega⟩⟩
theorem DeskAt.grown {w w' : World} {B D base m : Nat} {v : Value} {xs : List Value} {os : Option St} (h : DeskAt w B D os) (ho : w.ownsRow base 9 1 v m xs) (hg : w.grownBy w' v.ownBlock) : DeskAt w' B D os := by
 obtain ⟨h1, h2⟩ := h
 refine ⟨h1, ?_⟩
 cases os with
 | none => exact Blk.grown h2 hg (fun e => own_blk ho h2 (by decide) e.symm)
 | some S =>
   obtain ⟨hG, A, n, c, RA, rn, rc, PA, pn, pc, HA, hn, hc, hB, hO⟩ := h2
   exact ⟨hG, A, n, c, RA, rn, rc, PA, pn, pc, HA, hn, hc, hB.grown hg (fun e => own_blk ho hB (by decide) e.symm),
    ⟨own_grown hO.a hg (fun _ hg' => own_types hO.a ho (by decide) hg'), own_grown hO.r hg (fun _ hg' => own_types hO.r ho (by decide) hg'), own_grown hO.p hg (fun _ hg' => own_types hO.p ho (by decide) hg'), own_grown hO.l hg (fun _ hg' => own_types hO.l ho (by decide) hg')⟩⟩
theorem desk_take {ls : List ByteArray} {j : Nat} {s : ByteArray} (h : ls[j]? = some s) : deskS none (ls.take (j + 1)) = (lineO (deskS none (ls.take j)) s).st ∧ deskR none (ls.take (j + 1)) = deskR none (ls.take j) ++ [replyB (lineO (deskS none (ls.take j)) s)] := by
 obtain ⟨h1, rfl⟩ := List.getElem?_eq_some_iff.1 h
 rw [List.take_succ_eq_append_getElem h1, deskS_app, deskR_app]
 exact ⟨rfl, rfl⟩
theorem info_string : (Tryz.prog.info? 9).map (fun i => (i.zero, i.size, i.bytes)) = some (some (.string ByteArray.empty), 1, 16) := by kernel_rfl
theorem dNew_any (w : World) : Calls Tryz.prog 33 #[] w fun e w' => e = .returned (.pointer (some ⟨w.heap.size, 0, none⟩)) ∧ Below w.heap.size w w' ∧ w'.heap.size = w.heap.size + 1 ∧ DeskAt w' w.heap.size w.heap.size none := by
 have hb := below_new w (.cells (deskC false none 0 0 none 0 0 none 0 0 none 0 0) 115)
 have DB := Blk.new w 115 (deskC false none 0 0 none 0 0 none 0 0 none 0 0)
 have HB := Lib.hid hb
 have HD := Lib.hid DB
 clear hb DB
 go_enter Tryz.func33, Tryz.ntmps33
 go_wp2
 go_ret
 exact ⟨rfl, HB.out, by simp, Nat.le_refl _, HD.out⟩
set_option maxRecDepth 100000 in
set_option maxHeartbeats 2000000 in
theorem dplay_ok (A : Option Addr) (n c : Nat) (ls : List ByteArray) (w : World) (hr : Reads w w.heap.size 1 A n (ls.map .string)) (hs : ∀ s ∈ ls, s.size < 4294967281) (hT : DTab w.heap.size w) (h100 : n ≤ 100) :
  Calls Tryz.prog 14 #[.slice A n c] w fun e w' => ∃ A' c', e = .returned (.tuple #[.slice A' n c', .int .i64 0]) ∧ w'.ownsRow w.heap.size 9 1 (.slice A' n c') n ((deskR none ls).map .string) ∧ Below w.heap.size w w' := by
 have hll : ls.length = n := by have := hr.1; simpa using this
 have HL := Lib.hid hll
 have HS := Lib.hid hs
 have HT := Lib.hid hT
 have g1 : decide (100 < n) = false := decide_eq_false (by omega)
 have g2 : decide ((100 : Int) < (n : Int)) = false := decide_eq_false (by omega)
 obtain ⟨i0, hi, hz0, hz1, hz2⟩ := info_parts info_string
 have HN := Lib.hid (dNew_any w)
 clear hll hs hT
 go_enter Tryz.func14, Tryz.ntmps14
 go_wp2_with fail
 refine HN.out.mono ?_
 rintro e w1 ⟨rfl, hb1, hs1, hD⟩
 clear hs1
 go_wp2_with fail
 go_loopw [5, 7, 14] (fun o _ i wr => ∃ (j : Nat) (A5 : Option Addr) (c5 : Nat), j ≤ n ∧ i = .int .i64 j ∧ o = .slice A5 j c5 ∧ DeskAt wr w.heap.size w.heap.size (deskS none (ls.take j)) ∧ wr.ownsRow w.heap.size 9 1 (.slice A5 j c5) j ((deskR none (ls.take j)).map .string) ∧ Below w.heap.size w wr) (fun _ _ i _ => n - (intOf i).toNat)
 case atStart => exact ⟨0, none, 0, Nat.zero_le _, rfl, rfl, hD, World.ownsRow_nil _ _ _ _, hb1⟩
 case round =>
  obtain ⟨j, A5, c5, hj, rfl, rfl, hD, hown, hb⟩ := hrel
  by_cases hlt : j < n
  ·obtain ⟨ad, u, rfl, had, hu, c0⟩ := (hr.below hb).at_ hlt
   obtain ⟨s, hs, hus⟩ : ∃ s, ls[j]? = some s ∧ u = .string s := by
    rw [List.getElem?_map, Option.map_eq_some_iff] at hu
    obtain ⟨p, h1, h2⟩ := hu
    exact ⟨p, h1, h2.symm⟩
   subst hus
   have HK := Lib.hid (desk_take hs)
   have HDo := Lib.hid (dDo_any w.heap.size w.heap.size (deskS none (ls.take j)) s (HS.out s (List.mem_of_getElem? hs)) wr hD hb.size (HT.out.on hb))
   have hne : (Value.slice A5 j c5).ownBlock = none ∨ (Value.slice A5 j c5).ownBlock ≠ some w.heap.size := by
    refine .inr (fun e => ?_)
    have hB : ∃ cs, Blk wr w.heap.size 115 cs := by
     obtain ⟨-, h⟩ := hD
     cases hq : deskS none (ls.take j) with
     | none => rw [hq] at h; exact ⟨_, h⟩
     | some S => rw [hq] at h; obtain ⟨-, _, _, _, _, _, _, _, _, _, _, _, _, h, -⟩ := h; exact ⟨_, h⟩
    obtain ⟨cs, hB⟩ := hB
    exact own_blk hown hB (by decide) e
   generalize deskS none (ls.take j) = S1 at *
   generalize lineO S1 s = X at *
   generalize replyB X = t at *
   clear hu hs
   go_wp2_with fail
   refine HDo.out.mono ?_
   rintro e w2 ⟨hg, hD2, rfl⟩
   have hb2 := hb.trans (below_of_grown hg hb.size (Nat.le_refl _))
   have hown0 := (hown.kept hg hne).alloc (.cells #[.string t] 9)
   have hb3 := hb2.alloc hb2.size (.cells #[.string t] 9)
   have hD3 := hD2.below (below_new w2 (.cells #[.string t] 9))
   have hnew := reads_new w2 [.string t] 9 1 1 rfl
   clear hown hb hD hg hD2 hb2 hne HDo
   go_wp2_with (at_builtin; refine wpList_append_any _ rfl (.tmp 18) (.tmp 22) 48 rfl w.heap.size 9 i0 (.string ByteArray.empty) 1 16 Tryz.underlying48 hi hz0 hz1 hz2 rfl (by decide) (.slice A5 j c5) j _ rfl hown0 _ (some ⟨w2.heap.size, 0, none⟩) 1 1 [.string t] rfl hnew (by simp [Value.oneCell']) (by unfold maxLen; omega) (by omega) hb3.size ?_; rintro v' w5 hO5 hg5 - -; obtain ⟨A6, c6, rfl⟩ := own_slice hO5)
   have hb4 := hb3.grown hg5 hb3.size (fun g hg => (hown0.lt g hg).1)
   have hD4 := hD3.grown hown0 hg5
   have HO := Lib.hid hO5
   clear hO5 hown0 hg5 hnew hb3 hD3
   go_roundw
   case rel => exact ⟨j + 1, A6, c6, by omega, by go_num, rfl, by rw [HK.out.1]; exact hD4, by rw [HK.out.2, List.map_append]; exact HO.out, hb4⟩
   case measure => simp [intOf]; omega
  ·have hjn : j = n := by omega
   subst hjn
   rw [List.take_of_length_le (by rw [HL.out]; exact Nat.le_refl _)] at hown
   clear hD
   go_wp2
   go_ret2
   exact ⟨A5, c5, rfl, hown, hb⟩
theorem num_small {i : Nat} (h : i < 10) : numB ⟨#[UInt8.ofNat (48 + i)]⟩ = some (i : Int) := by
 have h1 : itoaB (i : Int) = ⟨#[UInt8.ofNat (48 + i)]⟩ := by
  unfold itoaB
  rw [Lib.itoa_nonneg, Lib.decDigits_one h]
 have h2 : Lib.atoiAll [UInt8.ofNat (48 + i)] = .ok (i : Int) := by
  have : i = 0 ∨ i = 1 ∨ i = 2 ∨ i = 3 ∨ i = 4 ∨ i = 5 ∨ i = 6 ∨ i = 7 ∨ i = 8 ∨ i = 9 := by omega
  rcases this with rfl | rfl | rfl | rfl | rfl | rfl | rfl | rfl | rfl | rfl <;> decide
 unfold numB
 show (match Lib.atoiAll [UInt8.ofNat (48 + i)] with | .ok n => _ | _ => _) = _
 rw [h2]
 show (if _ then _ else _) = _
 rw [if_pos ⟨by omega, by omega, h1⟩]
end Go.Proofs.YtblkhipbhahmeaaGreatDoor

namespace Go.Proofs
open Go.RowKit Go.Sort Go.Shelf
end Go.Proofs
namespace Go.Proofs.YtblkhipbhahmeaaGreatDoor
open Go.RowKit Go.Sort
theorem strs_of_takes {xs ys : List ByteArray} {n : Nat} (hx : xs.length = n) (hy : ys.length = n) (h : xs.take n = ys.take n) : xs = ys := by
 rw [List.take_of_length_le (by omega), List.take_of_length_le (by omega)] at h
 exact h
set_option maxHeartbeats 400000 in
theorem equal_str (A A2 : Option Addr) (n c m c2 B B2 : Nat) (xs ys : List ByteArray) (w : World) (hr : Reads w B 1 A n (xs.map (.string))) (hr2 : Reads w B2 1 A2 m (ys.map (.string))) (hn : n ≤ 1000000000000000000) (hm : m ≤ 1000000000000000000) :
  Calls Tryz.prog 15 #[.slice A n c, .slice A2 m c2] w fun e w' => e = .returned (.bool (decide (xs = ys))) ∧ ∃ q, w' = w.drewN q := by
 have hxl : xs.length = n := by have := hr.1; simpa using this
 have hyl : ys.length = m := by have := hr2.1; simpa using this
 have HX := Lib.hid hxl
 have HY := Lib.hid hyl
 clear hxl hyl
 by_cases hnm : n = m
 ·subst hnm
  go_enter Tryz.func15, Tryz.ntmps15
  go_wp2
  go_loopw [13] (fun i wr => ∃ j : Nat, j ≤ n ∧ i = .int .i64 j ∧ xs.take j = ys.take j ∧ ∃ q, wr = w.drewN q) (fun i _ => n - (intOf i).toNat)
  case atStart => exact ⟨0, Nat.zero_le _, rfl, by simp, 0, rfl⟩
  case round =>
   obtain ⟨j, hj, rfl, ht, q, rfl⟩ := hrel
   have HT := Lib.hid ht
   clear ht
   by_cases hlt : j < n
   ·obtain ⟨ad, u, rfl, _, hx, hc⟩ := hr.at_ hlt
    obtain ⟨ad2, u2, rfl, _, hx2, hc2⟩ := hr2.at_ hlt
    have hl : j < xs.length := by rw [HX.out]; exact hlt
    have hl2 : j < ys.length := by rw [HY.out]; exact hlt
    rw [List.getElem?_map, List.getElem?_eq_getElem hl] at hx
    rw [List.getElem?_map, List.getElem?_eq_getElem hl2] at hx2
    obtain rfl : u = .string xs[j] := by simpa using hx.symm
    obtain rfl : u2 = .string ys[j] := by simpa using hx2.symm
    clear hx hx2
    have T : Hid (xs.take (j + 1) = ys.take (j + 1) ↔ xs[j] = ys[j]) := by
     show _ ↔ _
     rw [List.take_succ_eq_append_getElem hl, List.take_succ_eq_append_getElem hl2, HT.out]
     constructor
     ·intro h
      have := List.append_cancel_left h
      simpa using this
     ·intro h; rw [h]
    have hlt' : (j : Int) < n := by omega
    generalize hgx : xs[j] = x at *
    generalize hgy : ys[j] = y at *
    have HGX := Lib.hid hgx
    have HGY := Lib.hid hgy
    clear hgx hgy
    by_cases he : x = y
    ·subst he
     go_wp2
     go_quiet (fail)
     go_wp2
     go_roundw
     case rel => exact ⟨j + 1, by omega, by go_num, T.out.2 (by simp), _, rfl⟩
     case measure => simp [intOf]; omega
    ·have he2 : (x.toList == y.toList) = false := by rw [beq_bytes]; exact decide_eq_false he
     go_wp2
     go_quiet (fail)
     go_wp2
     go_ret
     refine ⟨?_, _, drewN_add _ _ _⟩
     have : ¬ xs = ys := by
      intro h
      apply he
      rw [← HGX.out, ← HGY.out]
      subst h
      rfl
     rw [decide_eq_false this]
     rfl
   ·go_wp2
    go_ret
    have hjn : j = n := by omega
    subst hjn
    exact ⟨by rw [decide_eq_true (strs_of_takes HX.out HY.out HT.out)]; rfl, _, rfl⟩
 ·have hne : ¬ xs = ys := by
   intro h
   subst h
   exact hnm (HX.out.symm.trans HY.out)
  have e1 : ((n : Int) == (m : Int)) = false := by simp; omega
  have e2 : ((n : Int) != (m : Int)) = true := by simp; omega
  have e3 : (n == m) = false := by simpa using hnm
  have e4 : (n != m) = true := by simpa using hnm
  go_enter Tryz.func15, Tryz.ntmps15
  go_wp2
  go_ret
  exact ⟨by rw [decide_eq_false hne]; rfl, 0, rfl⟩
open Go.RowKit
def wL : List ByteArray := [⟨#[110, 101, 119, 32, 56, 32, 49, 32, 48]⟩, ⟨#[109, 97, 107, 101, 32, 48, 32, 48, 32, 50, 32, 53]⟩, ⟨#[112, 117, 116, 32, 48, 32, 49, 32, 55]⟩, ⟨#[103, 101, 116, 32, 48, 32, 49]⟩]
def wR : List ByteArray := [⟨#[111, 107]⟩, ⟨#[111, 107, 32, 48]⟩, ⟨#[111, 107]⟩, ⟨#[111, 107, 32, 55]⟩]
def wS1 : St := newSt 8 1 0
def wS2 : St := putIn wS1 0 0 2 5
def wS3 : St := ⟨wS2.a.set (atX wS2 0 + 1 + (spS wS2 0).r + 1).toNat 7, wS2.r, wS2.p, wS2.l⟩
theorem num_0 : numB ⟨#[48]⟩ = some 0 := num_small (i := 0) (by decide)
theorem num_1 : numB ⟨#[49]⟩ = some 1 := num_small (i := 1) (by decide)
theorem num_2 : numB ⟨#[50]⟩ = some 2 := num_small (i := 2) (by decide)
theorem num_5 : numB ⟨#[53]⟩ = some 5 := num_small (i := 5) (by decide)
theorem num_7 : numB ⟨#[55]⟩ = some 7 := num_small (i := 7) (by decide)
theorem num_8 : numB ⟨#[56]⟩ = some 8 := num_small (i := 8) (by decide)
theorem line_of {os : Option St} {s w0 : ByteArray} {ws : List ByteArray} {c : Cmd} {n : List Int} (hw : wordsB s = w0 :: ws) (hf : findC w0 = some c) (hl : ws.length = c.many) (hn : ws.mapM numB = some n) : lineO os s = cmdO os c n := by
 unfold lineO
 rw [hw]
 show (match findC w0 with | none => _ | some c => _) = _
 rw [hf]
 show (if _ then _ else match ws.mapM numB with | none => _ | some n => _) = _
 rw [if_neg (by rw [List.length_cons, hl]; simp), hn]
theorem w_line1 : lineO none ⟨#[110, 101, 119, 32, 56, 32, 49, 32, 48]⟩ = ⟨some wS1, [], 0⟩ :=
 line_of (w0 := ⟨#[110, 101, 119]⟩) (ws := [⟨#[56]⟩, ⟨#[49]⟩, ⟨#[48]⟩]) (c := .new) (n := [8, 1, 0]) (by decide +kernel) (by kernel_rfl) rfl (by simp [num_8, num_1, num_0])
theorem w_make : makeE wS1 0 0 2 5 false = 0 ∧ fitsE (ggL wS1.a) 3 = 0 := by decide +kernel
theorem w_line2 : lineO (some wS1) ⟨#[109, 97, 107, 101, 32, 48, 32, 48, 32, 50, 32, 53]⟩ = ⟨some wS2, [0], 0⟩ := by
 rw [line_of (w0 := ⟨#[109, 97, 107, 101]⟩) (ws := [⟨#[48]⟩, ⟨#[48]⟩, ⟨#[50]⟩, ⟨#[53]⟩]) (c := .deed 1 4 3 true) (n := [0, 0, 2, 5]) (by decide +kernel) (by kernel_rfl) rfl (by simp [num_0, num_2, num_5])]
 have hd : doO wS1 (deedV (1 : Nat) 3 [0, 0, 2, 5]) = ⟨wS2, 0, 0⟩ := by
  rw [show deedV (1 : Nat) 3 [0, 0, 2, 5] = ⟨1, 0, 0, 2, 5⟩ by kernel_rfl]
  unfold doO
  rw [if_neg (by decide), if_pos rfl]
  unfold makeO
  dsimp only
  rw [show (5 : Int) % 65536 = 5 by decide, if_neg (by rw [w_make.1]; decide), show (1 : Int) + 0 + 2 = 3 by decide, if_pos w_make.2]
  rfl
 show (if negV 3 [0, 0, 2, 5] = true then (⟨some wS1, [], 4⟩ : DOut) else if (doO wS1 (deedV (1 : Nat) 3 [0, 0, 2, 5])).er ≠ 0 then ⟨some wS1, [], (doO wS1 (deedV (1 : Nat) 3 [0, 0, 2, 5])).er⟩ else ⟨some (doO wS1 (deedV (1 : Nat) 3 [0, 0, 2, 5])).st, if true = true then [IntKind.i64.wrap (doO wS1 (deedV (1 : Nat) 3 [0, 0, 2, 5])).told] else [], 0⟩) = _
 rw [if_neg (by decide +kernel), hd]
 rfl
theorem w_put : bodyE wS2 0 1 = 0 := by decide +kernel
theorem w_line3 : lineO (some wS2) ⟨#[112, 117, 116, 32, 48, 32, 49, 32, 55]⟩ = ⟨some wS3, [], 0⟩ := by
 rw [line_of (w0 := ⟨#[112, 117, 116]⟩) (ws := [⟨#[48]⟩, ⟨#[49]⟩, ⟨#[55]⟩]) (c := .deed 6 3 2 false) (n := [0, 1, 7]) (by decide +kernel) (by kernel_rfl) rfl (by simp [num_0, num_1, num_7])]
 have hd : doO wS2 (deedV (6 : Nat) 2 [0, 1, 7]) = ⟨wS3, 0, 0⟩ := by
  rw [show deedV (6 : Nat) 2 [0, 1, 7] = ⟨6, 0, 1, 0, 7⟩ by kernel_rfl]
  unfold doO
  rw [if_neg (by decide), if_neg (by decide), if_neg (by decide), if_neg (by decide), if_neg (by decide), if_neg (by decide), if_pos rfl]
  unfold putO
  dsimp only
  rw [if_neg (by rw [w_put]; decide)]
  rfl
 show (if negV 2 [0, 1, 7] = true then (⟨some wS2, [], 4⟩ : DOut) else if (doO wS2 (deedV (6 : Nat) 2 [0, 1, 7])).er ≠ 0 then ⟨some wS2, [], (doO wS2 (deedV (6 : Nat) 2 [0, 1, 7])).er⟩ else ⟨some (doO wS2 (deedV (6 : Nat) 2 [0, 1, 7])).st, if false = true then [IntKind.i64.wrap (doO wS2 (deedV (6 : Nat) 2 [0, 1, 7])).told] else [], 0⟩) = _
 rw [if_neg (by decide +kernel), hd]
 rfl
theorem w_get : bodyE wS3 0 1 = 0 ∧ wS3.a.getD (atX wS3 0 + 1 + (spS wS3 0).r + 1).toNat 0 = 7 := by decide +kernel
theorem w_line4 : lineO (some wS3) ⟨#[103, 101, 116, 32, 48, 32, 49]⟩ = ⟨some wS3, [7], 0⟩ := by
 rw [line_of (w0 := ⟨#[103, 101, 116]⟩) (ws := [⟨#[48]⟩, ⟨#[49]⟩]) (c := .deed 5 2 (-1) true) (n := [0, 1]) (by decide +kernel) (by kernel_rfl) rfl (by simp [num_0, num_1])]
 have hd : doO wS3 (deedV (5 : Nat) (-1) [0, 1]) = ⟨wS3, 7, 0⟩ := by
  rw [show deedV (5 : Nat) (-1) [0, 1] = ⟨5, 0, 1, 0, 0⟩ by kernel_rfl]
  unfold doO
  rw [if_neg (by decide), if_neg (by decide), if_neg (by decide), if_neg (by decide), if_neg (by decide), if_pos rfl]
  unfold getO
  dsimp only
  rw [if_neg (by rw [w_get.1]; decide), w_get.2]
 show (if negV (-1) [0, 1] = true then (⟨some wS3, [], 4⟩ : DOut) else if (doO wS3 (deedV (5 : Nat) (-1) [0, 1])).er ≠ 0 then ⟨some wS3, [], (doO wS3 (deedV (5 : Nat) (-1) [0, 1])).er⟩ else ⟨some (doO wS3 (deedV (5 : Nat) (-1) [0, 1])).st, if true = true then [IntKind.i64.wrap (doO wS3 (deedV (5 : Nat) (-1) [0, 1])).told] else [], 0⟩) = _
 rw [if_neg (by decide +kernel), hd]
 rfl
theorem itoa_small {i : Nat} (h : i < 10) : itoaB (i : Int) = ⟨#[UInt8.ofNat (48 + i)]⟩ := by
 unfold itoaB
 rw [Lib.itoa_nonneg, Lib.decDigits_one h]
theorem works_lines : deskR none wL = wR := by
 show [replyB _, replyB _, replyB _, replyB _] = _
 rw [w_line1]
 dsimp only
 rw [w_line2]
 dsimp only
 rw [w_line3]
 dsimp only
 rw [w_line4]
 have h0 : itoaB 0 = ⟨#[48]⟩ := itoa_small (i := 0) (by decide)
 have h7 : itoaB 7 = ⟨#[55]⟩ := itoa_small (i := 7) (by decide)
 have e1 : replyB ⟨some wS1, [], 0⟩ = ⟨#[111, 107]⟩ := rfl
 have e2 : replyB ⟨some wS2, [0], 0⟩ = ⟨#[111, 107, 32, 48]⟩ := by
  show ⟨#[111, 107]⟩ ++ (⟨#[32]⟩ ++ itoaB 0) = _
  rw [h0]
  rfl
 have e3 : replyB ⟨some wS3, [], 0⟩ = ⟨#[111, 107]⟩ := rfl
 have e4 : replyB ⟨some wS3, [7], 0⟩ = ⟨#[111, 107, 32, 55]⟩ := by
  show ⟨#[111, 107]⟩ ++ (⟨#[32]⟩ ++ itoaB 7) = _
  rw [h7]
  rfl
 rw [e1, e2, e3, e4]
 rfl
set_option maxHeartbeats 1000000 in
theorem works_true (w : World) (hT : DTab w.heap.size w) : Calls Tryz.prog 5 #[] w fun e w' => e = .returned (.bool true) ∧ Below w.heap.size w w' := by
 have hb1 := below_new w (.cells (wL.map Value.string).toArray 9)
 have hr1 := reads_new w (wL.map Value.string) 9 4 1 rfl
 have HP := Lib.hid (dplay_ok (some ⟨w.heap.size, 0, none⟩) 4 4 wL (w.alloc (.cells (wL.map Value.string).toArray 9)) (by rw [World.size_alloc]; exact hr1) (by decide +kernel) (hT.up hb1) (by decide))
 rw [works_lines] at HP
 have HB := Lib.hid hb1
 clear hb1 hr1 hT
 go_enter Tryz.func5, Tryz.ntmps5
 go_wp2_with fail
 refine HP.out.mono ?_
 rintro e w2 ⟨A1, c1, rfl, ho, hb2⟩
 have hb02 := below_step HB.out hb2
 have hb3 := hb02.alloc hb02.size (.cells (wR.map Value.string).toArray 9)
 have hr1 := (Reads.of_own ho).alloc (Nat.le_refl _) (.cells (wR.map Value.string).toArray 9)
 have hr2 := reads_new w2 (wR.map Value.string) 9 4 1 rfl
 have hE := equal_str A1 (some ⟨w2.heap.size, 0, none⟩) 4 c1 4 4 _ _ _ _ (w2.alloc (.cells (wR.map Value.string).toArray 9)) hr1 hr2 (by decide) (by decide)
 rw [decide_eq_true rfl] at hE
 have HE := Lib.hid hE
 have HB3 := Lib.hid hb3
 clear hE hr1 hr2 ho hb2 hb02 hb3
 go_wp2_with fail
 refine HE.out.mono ?_
 rintro e w4 ⟨rfl, q, rfl⟩
 go_wp2_with fail
 go_ret
 exact ⟨by first | rfl | simp, below_drewN HB3.out _⟩
end Go.Proofs.YtblkhipbhahmeaaGreatDoor
