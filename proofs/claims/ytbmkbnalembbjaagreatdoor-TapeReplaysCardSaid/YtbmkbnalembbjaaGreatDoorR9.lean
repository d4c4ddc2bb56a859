/-
  Texts joined: CleanLaw TintWords CleanGaps IntF0 HandSwap RootSwap SlicesPin StorePuts StoreCollect.
-/
import Derived.Test.YtbmkbnalembbjaaGreatDoorRows
import Derived.Test.YtbmkbnalembbjaaGreatDoorR0
import Derived.Test.YtbmkbnalembbjaaGreatDoorR1
import Derived.Test.YtbmkbnalembbjaaGreatDoorR2
import Derived.Test.YtbmkbnalembbjaaGreatDoorR3
import Derived.Test.YtbmkbnalembbjaaGreatDoorR6
import Derived.Test.YtbmkbnalembbjaaGreatDoorR7
import Derived.Test.YtbmkbnalembbjaaGreatDoorR8
namespace Go.Proofs.YtbmkbnalembbjaaGreatDoor
open Go.RowKit
structure Cleaned (a f p L Y b now : List Int) : Prop where
  laid : LaidOk a L Y b a.length
  closed : ClosedL a L
  plan : Planned a L p (longsV a L p) Y
  sub : ∀ x ∈ f ++ p, x ∈ L
  pin : ∀ x ∈ p, posL L Y x = x
  map : now ++ p = (f ++ p).map (posL L Y)
  len256 : a.length ≤ 256
  lenL : L.length ≤ 256
theorem cleaned_of {a f p L Y b now : List Int} (h : CleanIs a f p L Y b now) : Cleaned a f p L Y b now := by
  obtain ⟨h1, h2, h3, h4, rfl, rfl, rfl⟩ := h
  have hP := planned_of h4
  have h0 := (checkE_ok.1 h1).1
  have hN := (parse_ok h0).1
  have hC := reached_closed h1 h3
  have hpin : ∀ x ∈ p, posL L (slidGo p 0 L (longsV a L p)) x = x := by
    intro x hx
    obtain ⟨hK, -⟩ := kept_of h4
    have hxL := h3.roots x (List.mem_append_right _ hx)
    obtain ⟨j, y, hj, hy, e⟩ := posL_ex hP.nodup hP.len hxL
    have hS := slid_of a.length p L (longsV a L p) 0 hK (fun z hz => hP.nn2 z (List.mem_of_getElem? hz))
    obtain ⟨s, i, -, -, -, -, -, e6, -⟩ := hP.at_ j x y hj hy
    rw [e]
    exact (hS.at_ j x y s.long hj e6 hy).2.1 hx
  refine ⟨?_, hC, hP, h3.roots, hpin, ?_, hN, ?_⟩
  · exact laid_ok h0 hC hP.nodup hP.len hN hP.nn hP.rows
  · rw [List.map_append]
    congr 1
    conv => lhs; rw [← List.map_id p]
    exact List.map_congr_left (fun x hx => (hpin x hx).symm)
  · exact nodup_bound 256 L h3.once (fun x hx => begsL_bounds h0 x (h3.begs x hx))
theorem Cleaned.alive {a f p L Y b now : List Int} (h : Cleaned a f p L Y b now) : ∀ x ∈ now ++ p, x ∈ begsL (spotsL b) := by
  intro x hx
  rw [h.map] at hx
  obtain ⟨z, hz, rfl⟩ := List.mem_map.1 hx
  have hzL := h.sub z hz
  obtain ⟨s, hs⟩ := begsL_iff.1 (h.closed.begs z hzL)
  obtain ⟨s', hs', -⟩ := h.laid.iso.at_ z hzL s hs
  exact begsL_iff.2 ⟨s', hs'⟩
theorem Cleaned.form {a f p L Y b now : List Int} (h : Cleaned a f p L Y b now) {os os' : List Ob} {fr fr' : List Int} (h1 : FormIs a (f ++ p) os fr) (h2 : FormIs b (now ++ p) os' fr') : os = os' ∧ fr = fr' := by
  rw [h.map] at h2
  exact form_iso h.laid.iso h.closed h.sub h1 h2
theorem words_wf {a : List Int} (h : ∀ x ∈ a, 0 ≤ x ∧ x < 18446744073709551616) : ∀ x ∈ a, (Lit.int .u64 x).wf = true := fun x hx => by
  obtain ⟨h1, h2⟩ := h x hx
  simp [Lit.wf, IntKind.min, IntKind.max, IntKind.signed, IntKind.bits]
  omega
theorem wf_words {a : List Int} (h : ∀ x ∈ a, (Lit.int .u64 x).wf = true) : ∀ x ∈ a, 0 ≤ x ∧ x < 18446744073709551616 := fun x hx => by
  have := h x hx
  simp [Lit.wf, IntKind.min, IntKind.max, IntKind.signed, IntKind.bits] at this
  omega
theorem laid_wf {a keep Y : List Int} {N : Nat} (ha : ∀ x ∈ a, (Lit.int .u64 x).wf = true) (hR : RowsOk N 0 (rowsOf a keep Y)) (hN : N ≤ 256) (hY : ∀ y ∈ Y, y ≤ 256) (hn : keep.Nodup) (hl : Y.length = keep.length) (hC : ClosedL a keep) (hY0 : ∀ y ∈ Y, 0 ≤ y) :
    ∀ x ∈ chunksW (laidC N 0 (rowsOf a keep Y)), (Lit.int .u64 x).wf = true := by
  refine words_wf (fun x hx => ?_)
  obtain ⟨c, hc, hxc⟩ := List.mem_flatMap.1 hx
  have hcok := laidC_ok hR hN c hc
  obtain ⟨w1, w2, w3, w4, w5, w6, w7⟩ := rdw_word c.r c.b c.t c.f hcok.1
  rcases List.mem_cons.1 hxc with rfl | hxp
  · exact ⟨w6, w7⟩
  · rcases laidC_mem hR c hc with ⟨q, -, -, rfl⟩ | ⟨y, hy⟩
    · have := List.eq_of_mem_replicate hxp
      omega
    · obtain ⟨j, hj⟩ := List.mem_iff_getElem?.1 hy
      have hjl : j < keep.length := by have := (List.getElem?_eq_some_iff.1 hj).1; rw [rowsOf_length hl] at this; exact this
      have := rowsOf_at (a := a) (List.getElem?_eq_getElem hjl) (List.getElem?_eq_getElem (l := Y) (i := j) (by omega))
      rw [hj] at this
      simp only [Option.some.injEq, Prod.mk.injEq] at this
      obtain ⟨-, rfl⟩ := this
      obtain ⟨s, hs⟩ := begsL_iff.1 (hC.begs _ (List.getElem_mem hjl))
      rw [rowAt_some hs] at hxp
      rcases List.mem_append.1 hxp with h | h
      · obtain ⟨v, hv, rfl⟩ := List.mem_map.1 h
        unfold refT
        by_cases h0 : v = 0
        · rw [if_pos h0]; omega
        · rw [if_neg h0]
          have hk := Iso.link_of hC (List.getElem_mem hjl) hs v hv h0
          obtain ⟨i, u, -, hu, e⟩ := posL_ex hn hl hk
          have h1 := hY u (List.mem_of_getElem? hu)
          have h2 := hY0 u (List.mem_of_getElem? hu)
          rw [e]
          omega
      · unfold bodyOf at h
        exact wf_words ha x (List.mem_of_mem_drop (List.mem_of_mem_take h))
theorem Cleaned.wf {a f p L Y b now : List Int} (h : Cleaned a f p L Y b now) (hI : CleanIs a f p L Y b now) (ha : ∀ x ∈ a, (Lit.int .u64 x).wf = true) : (∀ x ∈ b, (Lit.int .u64 x).wf = true) ∧ ∀ x ∈ now, (Lit.int .i64 x).wf = true := by
  have hN := h.len256
  have hYb : ∀ y ∈ Y, 0 ≤ y ∧ y ≤ 256 := fun y hy => by
    obtain ⟨j, hj⟩ := List.mem_iff_getElem?.1 hy
    have hjl : j < L.length := by rw [← h.plan.len]; exact (List.getElem?_eq_some_iff.1 hj).1
    obtain ⟨s, i, -, -, -, e4, e5, -, e7, -⟩ := h.plan.at_ j _ y (List.getElem?_eq_getElem hjl) hj
    have := e4.r0
    have := e4.b0
    unfold Spot.long at e5
    omega
  constructor
  · obtain ⟨-, -, -, -, rfl, rfl, -⟩ := hI
    exact laid_wf ha h.plan.rows hN (fun y hy => (hYb y hy).2) h.plan.nodup h.plan.len h.closed h.plan.nn
  · obtain ⟨-, -, -, -, -, -, rfl⟩ := hI
    intro x hx
    obtain ⟨z, hz, rfl⟩ := List.mem_map.1 hx
    obtain ⟨i, u, -, hu, e⟩ := posL_ex h.plan.nodup h.plan.len (h.sub z (List.mem_append_left _ hz))
    have := hYb u (List.mem_of_getElem? hu)
    rw [e]
    simp [Lit.wf, IntKind.min, IntKind.max, IntKind.signed, IntKind.bits]
    omega
end Go.Proofs.YtbmkbnalembbjaaGreatDoor

namespace Go.Proofs.YtbmkbnalembbjaaGreatDoor
open Go.RowKit
def longW (S : List Spot) (x : Int) : Int := match spotAt S x with | some s => s.long | none => 0
def longsL (S : List Spot) : List Int → Int
  | [] => 0
  | x :: t => longW S x + longsL S t
end Go.Proofs.YtbmkbnalembbjaaGreatDoor

namespace Go.Proofs.YtbmkbnalembbjaaGreatDoor
open Go.RowKit
theorem rsum_takeG {L : List Rn} {M : Int} (h : ∀ r ∈ L, 0 ≤ r.len ∧ r.len ≤ M) : ∀ j, j ≤ L.length → 0 ≤ rsum (L.take j) ∧ rsum (L.take j) ≤ M * j := by
  intro j
  induction j with
  | zero => intro _; simp [rsum]
  | succ j ih =>
    intro hj
    have hlt : j < L.length := by omega
    rw [List.take_succ_eq_append_getElem hlt, rsum_append]
    have h1 := h _ (List.getElem_mem hlt)
    have h2 := ih (by omega)
    simp only [rsum]
    have e : M * ((j + 1 : Nat) : Int) = M * j + M := by rw [Int.natCast_add, Int.mul_add]; simp
    rw [e]
    omega
theorem longsL_isum {a L longs : List Int} (hl : longs.length = L.length) (h : ∀ (j : Nat) (x : Int), L[j]? = some x → longs[j]? = some (longW (spotsL a) x)) : isum longs = longsL (spotsL a) L := by
  induction L generalizing longs with
  | nil => obtain rfl : longs = [] := List.eq_nil_of_length_eq_zero hl
           rfl
  | cons x L ih =>
    cases longs with
    | nil => cases hl
    | cons k longs =>
      have h0 := h 0 x rfl
      simp only [List.getElem?_cons_zero, Option.some.injEq] at h0
      simp only [isum, longsL]
      rw [ih (by simpa using hl) (fun j y hy => by have := h (j + 1) y (by simpa using hy); simpa using this), h0]
theorem Cleaned.gaps {a f p L Y b now : List Int} (h : Cleaned a f p L Y b now) (hI : CleanIs a f p L Y b now) :
    ggL b = pgaps a.length 0 Y (longsV a L p) ∧ rsum (ggL b) + longsL (spotsL a) L = a.length ∧ (∀ r ∈ ggL b, 0 ≤ r.len ∧ r.len ≤ 256) ∧ (ggL b).length ≤ p.length + 1 ∧ (ggL b).length ≤ 257 := by
  have hg : ggL b = pgaps a.length 0 Y (longsV a L p) := by
    unfold ggL
    rw [if_pos h.laid.check, h.laid.gaps, h.plan.ys, h.plan.lens]
  obtain ⟨hK, hN⟩ := kept_of hI.longs
  have hs := pgaps_sum a.length p L (longsV a L p) 0 hK (fun x hx => h.plan.nn2 x (List.mem_of_getElem? hx)) (by omega)
  rw [← hI.y] at hs
  have hlen : (pgaps a.length 0 Y (longsV a L p)).length ≤ p.length + 1 := by
    rw [hI.y]
    exact pgaps_few (reached_rises hI.reached)
  have hlen2 : (pgaps a.length 0 Y (longsV a L p)).length ≤ L.length + 1 := by
    rw [hI.y]
    have h1 := pgaps_count a.length p L (longsV a L p) 0
    have h2 := List.length_filter_le (fun x => decide (x ∈ p)) L
    omega
  have hll := h.lenL
  have hsum : isum (longsV a L p) = longsL (spotsL a) L := longsL_isum h.plan.lenL (fun j x hx => by
    obtain ⟨s, i, e1, -, -, -, -, e6, -⟩ := h.plan.at_ j x _ hx (List.getElem?_eq_getElem (l := Y) (i := j) (by rw [h.plan.len]; exact (List.getElem?_eq_some_iff.1 hx).1))
    rw [e6]
    unfold longW
    rw [e1])
  rw [hg]
  refine ⟨rfl, by rw [← hsum, hs.1]; omega, fun r hr => ?_, hlen, by omega⟩
  have := hs.2 r hr
  omega
end Go.Proofs.YtbmkbnalembbjaaGreatDoor

namespace Go.Proofs.YtbmkbnalembbjaaGreatDoor
open Go.RowKit
set_option maxRecDepth 100000 in
set_option maxHeartbeats 1000000 in
theorem indexIntF0_any (F : Nat) (A : Option Addr) (n c B : Nat) (l : List Int) (p : Int → Bool) (w : World) (hr : Reads w B 1 A n (l.map (.int .i64))) (hB : B ≤ w.heap.size) (hn : n ≤ 1000000000000000000) (hP : Plain Tryz.prog F)
    (HC : ∀ (w' : World) (x : Int), Below w.heap.size w w' → x ∈ l → Calls Tryz.prog F #[.int .i64 x] w' fun e w'' => e = .returned (.bool (p x)) ∧ Below w'.heap.size w' w'') :
    Calls Tryz.prog 120 #[.slice A n c, .func (.func F) #[] #[]] w fun e w' => e = .returned (.int .i64 (ixOf p l)) ∧ Below w.heap.size w w' := by
  have hll : l.length = n := by have := hr.1; simpa using this
  have HL := Lib.hid hll
  have HC := Lib.hid HC
  have hcf := fun (x : Value) (w : World) => hP #[x] w
  clear hll hP
  go_enter Tryz.func120, Tryz.ntmps120
  go_wp2
  go_loopw [5, 8] (fun _ i wr => ∃ j : Nat, j ≤ n ∧ i = .int .i64 j ∧ Below w.heap.size w wr ∧ Hid (∀ x ∈ l.take j, p x = false)) (fun _ i _ => n - (intOf i).toNat)
  case atStart => exact ⟨0, Nat.zero_le _, rfl, Below.refl _ _, by intro x hx; simp at hx⟩
  case round =>
    obtain ⟨j, hj, rfl, hb, HD⟩ := hrel
    by_cases hlt : j < n
    · obtain ⟨ad, s, rfl, had, hs, c0⟩ := (hr.below (hb.mono hB)).num hlt
      have HS := Lib.hid hs
      have HQ := Lib.hid (HC.out wr s hb (List.mem_of_getElem? hs))
      clear hs
      cases hp : p s
      · have HF := Lib.hid hp
        clear hp
        go_wp2_with fail
        refine HQ.out.mono ?_
        rw [HF.out]
        rintro e w1 ⟨rfl, hb1⟩
        go_wp2
        go_roundw
        case rel => exact ⟨j + 1, by omega, by go_num, hb.trans (hb1.mono hb.size), fun x hx => by
          rcases take_succ_mem HS.out x hx with h | rfl
          · exact HD.out x h
          · exact HF.out⟩
        case measure => simp [intOf]; omega
      · have HF := Lib.hid hp
        clear hp
        go_wp2_with fail
        refine HQ.out.mono ?_
        rw [HF.out]
        rintro e w1 ⟨rfl, hb1⟩
        go_wp2
        go_ret
        exact ⟨ret_int (ixOf_some HS.out HF.out HD.out).symm, hb.trans (hb1.mono hb.size)⟩
    · go_wp2
      go_ret
      exact ⟨ret_int (ixOf_none (by have := HD.out; rwa [List.take_of_length_le (by rw [HL.out]; omega)] at this)).symm, hb⟩
theorem containsIntF0_any (F : Nat) (A : Option Addr) (n c B : Nat) (l : List Int) (p : Int → Bool) (w : World) (hr : Reads w B 1 A n (l.map (.int .i64))) (hB : B ≤ w.heap.size) (hn : n ≤ 1000000000000000000) (hP : Plain Tryz.prog F)
    (HC : ∀ (w' : World) (x : Int), Below w.heap.size w w' → x ∈ l → Calls Tryz.prog F #[.int .i64 x] w' fun e w'' => e = .returned (.bool (p x)) ∧ Below w'.heap.size w' w'') :
    Calls Tryz.prog 85 #[.slice A n c, .func (.func F) #[] #[]] w fun e w' => e = .returned (.bool (l.any p)) ∧ Below w.heap.size w w' := by
  have H := Lib.hid (indexIntF0_any F A n c B l p w hr hB hn hP HC)
  have hd := ixOf_nonneg p l
  rw [← hd]
  generalize ixOf p l = i at *
  clear HC hd
  go_enter Tryz.func85, Tryz.ntmps85
  go_wp2_with fail
  refine H.out.mono ?_
  rintro e w1 ⟨rfl, hb⟩
  go_wp2
  go_ret
  exact ⟨rfl, hb⟩
end Go.Proofs.YtbmkbnalembbjaaGreatDoor

namespace Go.Proofs.YtbmkbnalembbjaaGreatDoor
open Go.RowKit
def swapS (t : List Int) (s : Slot) : Slot := if s.opn = true then ⟨s.gen, true, t.getD s.loc.toNat 0⟩ else s
theorem swapS_step {l : List Slot} {t : List Int} {j : Nat} (h : j < l.length) : ((l.take j).map (swapS t) ++ l.drop j).set j (swapS t l[j]) = (l.take (j + 1)).map (swapS t) ++ l.drop (j + 1) := by
  have hl : ((l.take j).map (swapS t)).length = j := by rw [List.length_map, List.length_take]; omega
  rw [List.drop_eq_getElem_cons h, List.set_append_right _ _ (by omega), hl, Nat.sub_self, List.set_cons_zero, List.take_succ_eq_append_getElem h, List.map_append, List.append_assoc]
  rfl
theorem swapS_at {l : List Slot} {t : List Int} {j : Nat} (h : j < l.length) : ((l.take j).map (swapS t) ++ l.drop j)[j]? = some l[j] := by
  have hl : ((l.take j).map (swapS t)).length = j := by rw [List.length_map, List.length_take]; omega
  rw [List.getElem?_append_right (by omega), hl, Nat.sub_self, List.drop_eq_getElem_cons h]
  rfl
theorem set_same {α : Type} {l : List α} {i : Nat} {x : α} (h : l[i]? = some x) : l.set i x = l := by
  obtain ⟨h1, rfl⟩ := List.getElem?_eq_some_iff.1 h
  exact List.set_getElem_self h1
theorem swapS_skip {l : List Slot} {t : List Int} {j : Nat} (h : j < l.length) (h0 : l[j].opn = false) : (l.take j).map (swapS t) ++ l.drop j = (l.take (j + 1)).map (swapS t) ++ l.drop (j + 1) := by
  rw [← swapS_step h]
  have e : swapS t l[j] = l[j] := by unfold swapS; rw [h0]; rfl
  rw [e, set_same (swapS_at h)]
theorem slotsC_set1 {l : List Slot} {j : Nat} {gen loc loc' : Int} {opn : Bool} (h : l[j]? = some ⟨gen, opn, loc⟩) : (slotsC l).set (j * 3 + 2) (.int .i64 loc') = slotsC (l.set j ⟨gen, opn, loc'⟩) := by
  obtain ⟨hj, he⟩ := List.getElem?_eq_some_iff.1 h
  have a0 := slotsC_at l j 0 hj (by omega)
  have a1 := slotsC_at l j 1 hj (by omega)
  rw [he] at a0 a1
  have h3 := slotsC_set l j ⟨gen, opn, loc'⟩
  dsimp only at h3
  rw [← h3, set_same (l := slotsC l) (i := j * 3) (x := .int .i64 gen) a0, set_same (l := slotsC l) (i := j * 3 + 1) (x := .bool opn) a1]
set_option maxHeartbeats 400000 in
theorem hswapOut_any (x : Int) (h : 0 ≤ x ∧ x < 256) (w : World) :
    Calls Tryz.prog 109 #[.int .i64 x] w fun e w' => e = .returned (.bool false) ∧ Below w.heap.size w w' := by
  have H := Lib.hid (fun w => handThere_yes x w h)
  go_enter Tryz.func109, Tryz.ntmps109
  go_wp2_with (go_at_call 89; refine (H.out _).mono ?_; rintro e w' ⟨rfl, rfl⟩)
  go_ret
  exact ⟨rfl, Below.refl _ _⟩
set_option maxRecDepth 100000 in
set_option maxHeartbeats 1000000 in
theorem handSwap_ok (A A2 : Option Addr) (n c c2 : Nat) (l : List Slot) (t : List Int) (w : World) (hr : Reads w w.heap.size 3 A n (slotsC l)) (hr2 : Reads w w.heap.size 1 A2 256 (t.map (.int .i64))) (hE : handE l = 0) (ht : ∀ v ∈ t, 0 ≤ v ∧ v < 256) :
    Calls Tryz.prog 73 #[.slice A n c, .slice A2 256 c2] w fun e w' => ∃ A' c', e = .returned (.tuple #[.slice A' n c', .int .i64 0]) ∧ w'.ownsRow w.heap.size 60 3 (.slice A' n c') n (slotsC (l.map (swapS t))) ∧ Below w.heap.size w w' := by
  have hll : l.length = n := by have := hr.1; rw [slotsC_length] at this; omega
  have hn16 : n ≤ 16 := by have := (handE_ok.1 hE).1; omega
  have HA := Lib.hid (handE_ok.1 hE).2
  have H := handCheck_any A n c w.heap.size l w hr (Nat.le_refl _)
  rw [hE] at H
  have H := Lib.hid H
  have HF : Hid (t.any (fun _ => false) = false) := by show _ = _; simp
  have HT := Lib.hid ht
  have HL := Lib.hid hll
  clear hE hll ht
  go_enter Tryz.func73, Tryz.ntmps73
  go_wp2_with fail
  refine H.out.mono ?_
  rintro e w1 ⟨rfl, hb1⟩
  have HC := containsIntF0_any 109 A2 256 c2 _ t (fun _ => false) _ (hr2.below hb1) hb1.size (by omega) (plain_of (fn := Tryz.f109) Tryz.func109 (by kernel_rfl) (by kernel_rfl)) (fun w' x _ hx => hswapOut_any x (HT.out x hx) w')
  rw [HF.out] at HC
  have HC := Lib.hid HC
  go_wp2_with fail
  refine HC.out.mono ?_
  rintro e w2 ⟨rfl, hb2⟩
  have hb02 := below_step hb1 hb2
  clear HC hb1 hb2
  go_wp2_with fail
  refine (clone_slots A n c _ (slotsC l) _ (hr.below hb02) hb02.size (slotsC_one _) (by omega)).mono ?_
  rintro e w3 ⟨A3, c3, rfl, hown, hb3⟩
  have hb03 := below_step hb02 hb3
  have hown := own_mono hown hb02.size
  clear hb3 hb02
  go_wp2
  go_loopw [27] (fun i wr => ∃ j : Nat, j ≤ n ∧ i = .int .i64 j ∧ Hid (wr.ownsRow w.heap.size 60 3 (.slice A3 n c3) n (slotsC ((l.take j).map (swapS t) ++ l.drop j))) ∧ Below w.heap.size w wr) (fun i _ => n - (intOf i).toNat)
  case atStart => exact ⟨0, Nat.zero_le _, rfl, Lib.hid (by simpa using hown), hb03⟩
  case round =>
    obtain ⟨j, hj, rfl, HO, hb⟩ := hrel
    by_cases hlt : j < n
    · have hjl : j < l.length := by rw [HL.out]; exact hlt
      have hown := HO.out
      obtain ⟨g, cap, hv, hg, -⟩ := hown.form (by omega)
      obtain ⟨rfl, rfl⟩ : A3 = some ⟨g, 0, none⟩ ∧ c3 = cap := by simpa using hv
      obtain ⟨d0, d1, d2⟩ := own_slot hown (swapS_at (t := t) hjl)
      have f2 := hown.frozenAt (j * 3 + 2)
      have hq := slotE_ok.1 (HA.out _ (List.getElem_mem hjl))
      have HSt := Lib.hid (swapS_step (t := t) hjl)
      have HSk := Lib.hid (swapS_skip (t := t) hjl)
      have HAtt := Lib.hid (swapS_at (t := t) hjl)
      generalize l[j]'hjl = s at *
      obtain ⟨gen, opn, loc⟩ := s
      dsimp only at d0 d1 d2 hq HSk
      obtain ⟨q0, q1, q2, q3, q4, q5⟩ := hq
      have hj1 : j + 1 ≤ n := hlt
      obtain ⟨V, rfl⟩ : ∃ V : Nat, loc = V := ⟨loc.toNat, by omega⟩
      have hV : V < 256 := by omega
      have hlw := (hown.lt g rfl).2
      clear hv q4 q5
      cases opn
      · have HN : Hid (wr.ownsRow w.heap.size 60 3 (.slice (some ⟨g, 0, none⟩) n c3) n (slotsC ((l.take (j + 1)).map (swapS t) ++ l.drop (j + 1)))) := by
          rw [← HSk.out rfl]
          exact HO
        have HNa := Lib.hid (HN.out.alloc (.cells #[.int .i64 gen, .bool false, .int .i64 V] 60))
        have hba := hb.alloc hb.size (.cells #[.int .i64 gen, .bool false, .int .i64 V] 60)
        clear HSt HSk hown HO HN
        go_wp2_with fail
        go_roundw
        case rel => exact ⟨j + 1, hj1, by go_num, HNa, hba⟩
        case measure => simp [intOf]; omega
      · have hb0 := hb.alloc hb.size (.cells #[.int .i64 gen, .bool true, .int .i64 V] 60)
        have f3 := (hown.alloc (.cells #[.int .i64 gen, .bool true, .int .i64 V] 60)).frozenAt (j * 3 + 2)
        have e2 := ((hown.alloc (.cells #[.int .i64 gen, .bool true, .int .i64 V] 60)).cellAt (j * 3 + 2) (by omega))
        rw [slotsC_at _ j 2 (by simp; omega) (by omega)] at e2
        obtain ⟨ad, x, rfl, had, hx, cx⟩ := (hr2.below hb0).num (k := V) hV
        have hxv : swapS t ⟨gen, true, V⟩ = ⟨gen, true, x⟩ := by unfold swapS; rw [if_pos rfl]; show Slot.mk _ _ _ = _; rw [Int.toNat_natCast, List.getD_eq_getElem?_getD, hx]; rfl
        have hat : ((l.take j).map (swapS t) ++ l.drop j)[j]? = some ⟨gen, true, V⟩ := HAtt.out
        have hst := ((hown.stored (j * 3 + 2) (.int .i64 x)).1).alloc (.cells #[.int .i64 gen, .bool true, .int .i64 V] 60)
        rw [slotsC_set1 hat, ← hxv, HSt.out] at hst
        have HN := Lib.hid hst
        have hbs := hb.setCell (p := ⟨g, j * 3 + 2, none⟩) hg (.int .i64 x)
        have hba := hbs.alloc hbs.size (.cells #[.int .i64 gen, .bool true, .int .i64 V] 60)
        clear HSt HSk hown HO hst hxv hx hat
        go_wp2_with fail
        go_roundw
        case rel => exact ⟨j + 1, hj1, by go_num, HN, hba⟩
        case measure => simp [intOf]; omega
    · have hjn : j = n := by omega
      have e : (l.take j).map (swapS t) ++ l.drop j = l.map (swapS t) := by rw [List.take_of_length_le (by rw [HL.out]; omega), List.drop_eq_nil_of_le (by rw [HL.out]; omega), List.append_nil]
      rw [e] at HO
      clear e
      go_wp2
      go_ret2
      exact ⟨A3, c3, rfl, HO.out, hb⟩
end Go.Proofs.YtbmkbnalembbjaaGreatDoor

namespace Go.Proofs.YtbmkbnalembbjaaGreatDoor
open Go.RowKit
def swapE (r : List Int) (n : Int) (t : List Int) : Int := if rootE r n ≠ 0 then rootE r n else if (t.length : Int) ≠ n then 3 else if t.any (fun v => !inR v n) = true then 4 else 0
def swapV (t : List Int) (v : Int) : Int := if 0 ≤ v then t.getD v.toNat 0 else v
theorem swapE_ok {r t : List Int} {n : Int} (h : swapE r n t = 0) : rootE r n = 0 ∧ (t.length : Int) = n ∧ ∀ v ∈ t, -1 ≤ v ∧ v < n := by
  unfold swapE at h
  split at h
  · rename_i h1; exact absurd h h1
  · rename_i h1
    split at h
    · cases h
    · rename_i h2
      split at h
      · cases h
      · rename_i h3
        refine ⟨by simpa using h1, by simpa using h2, fun v hv => ?_⟩
        have h4 : ¬ (!inR v n) = true := fun h5 => h3 (List.any_eq_true.2 ⟨v, hv, h5⟩)
        simp only [inR, Bool.not_eq_true', Bool.not_eq_false, Bool.and_eq_true, decide_eq_true_eq] at h4
        exact h4
theorem swapE_of {r t : List Int} {n : Int} (h : rootE r n = 0) (h1 : (t.length : Int) = n) (h2 : ∀ v ∈ t, -1 ≤ v ∧ v < n) : swapE r n t = 0 := by
  unfold swapE
  rw [if_neg (by simp [h]), if_neg (by simp [h1]), if_neg]
  intro h3
  obtain ⟨v, hv, h4⟩ := List.any_eq_true.1 h3
  have := h2 v hv
  simp only [inR, Bool.not_eq_true', Bool.and_eq_false_iff, decide_eq_false_iff_not] at h4
  omega
set_option maxHeartbeats 400000 in
theorem swapOut_any (v n : Int) (g : Nat) (w : World) (hc : w.cell? ⟨g, 0, none⟩ = some (.int .i64 n)) :
    Calls Tryz.prog 108 #[.int .i64 v, .pointer (some ⟨g, 0, none⟩)] w fun e w' => e = .returned (.bool (!inR v n)) ∧ Below w.heap.size w w' := by
  have H := Lib.hid (fun w => within_any v n w)
  generalize inR v n = b at *
  go_enter Tryz.func108, Tryz.ntmps108
  go_wp2_with (go_at_call 87; refine (H.out _).mono ?_; rintro e w' ⟨rfl, rfl⟩)
  go_ret
  exact ⟨rfl, Below.refl _ _⟩
theorem swap_step {r t : List Int} {j : Nat} (h : j < r.length) : ((r.take j).map (swapV t) ++ r.drop j).set j (swapV t r[j]) = (r.take (j + 1)).map (swapV t) ++ r.drop (j + 1) := by
  have hl : ((r.take j).map (swapV t)).length = j := by rw [List.length_map, List.length_take]; omega
  rw [List.drop_eq_getElem_cons h, List.set_append_right _ _ (by omega), hl, Nat.sub_self, List.set_cons_zero, List.take_succ_eq_append_getElem h, List.map_append, List.append_assoc]
  rfl
theorem swap_at {r t : List Int} {j : Nat} (h : j < r.length) : ((r.take j).map (swapV t) ++ r.drop j)[j]? = some r[j] := by
  have hl : ((r.take j).map (swapV t)).length = j := by rw [List.length_map, List.length_take]; omega
  rw [List.getElem?_append_right (by omega), hl, Nat.sub_self, List.drop_eq_getElem_cons h]
  rfl
theorem swap_skip {r t : List Int} {j : Nat} (h : j < r.length) (h0 : r[j] < 0) : (r.take j).map (swapV t) ++ r.drop j = (r.take (j + 1)).map (swapV t) ++ r.drop (j + 1) := by
  rw [← swap_step h]
  have : swapV t r[j] = r[j] := by unfold swapV; rw [if_neg (by omega)]
  rw [this]
  obtain ⟨q1, q2⟩ := List.getElem?_eq_some_iff.1 (swap_at (t := t) h)
  have h1 := List.set_getElem_self q1
  rw [q2] at h1
  exact h1.symm
set_option maxRecDepth 100000 in
set_option maxHeartbeats 1000000 in
theorem swap_ok (A A2 : Option Addr) (n c N c2 : Nat) (r t : List Int) (w : World) (hr : Reads w w.heap.size 1 A n (r.map (.int .i64))) (hr2 : Reads w w.heap.size 1 A2 N (t.map (.int .i64))) (hE : swapE r N t = 0) :
    Calls Tryz.prog 72 #[.slice A n c, .int .i64 N, .slice A2 N c2] w fun e w' => ∃ A' c', e = .returned (.tuple #[.slice A' n c', .int .i64 0]) ∧ w'.ownsRow w.heap.size 3 1 (.slice A' n c') n ((r.map (swapV t)).map (.int .i64)) ∧ Below w.heap.size w w' := by
  have hrl : r.length = n := by have := hr.1; simpa using this
  have htl : t.length = N := by have := hr2.1; simpa using this
  obtain ⟨h0, -, h2⟩ := swapE_ok hE
  obtain ⟨r1, r2, r3, r4⟩ := rootE_ok h0
  have hn : n ≤ 32 := by omega
  have hb0 := below_new w (.cells #[.int .i64 N] 3)
  have B0 := Blk.new w 3 #[.int .i64 N]
  have H := rootCheck_any A n c r N _ ((hr.below hb0).more hb0.size) (by omega)
  rw [h0] at H
  have H := Lib.hid H
  have HF : Hid (t.any (fun v => !inR v N) = false) := by
    show _ = _
    rw [List.any_eq_false]
    intro v hv
    have := h2 v hv
    simp only [inR, Bool.not_eq_true', Bool.not_eq_false, Bool.and_eq_true, decide_eq_true_eq]
    exact this
  have HR := Lib.hid hrl
  have HR4 := Lib.hid r4
  have HT := Lib.hid htl
  have hN : N ≤ 256 := by omega
  have z1 : (N != N) = false := by simp
  clear h0 h2 hE hrl r1 r2 r3 r4 htl
  go_enter Tryz.func72, Tryz.ntmps72
  go_wp2_with fail
  refine H.out.mono ?_
  rintro e w1 ⟨rfl, hb1⟩
  have hb01 := below_step hb0 hb1
  have B1 := B0.below hb1 B0.lt
  have HC := containsIntF_any 108 (.pointer (some ⟨w.heap.size, 0, none⟩)) A2 N c2 _ t (fun v => !inR v N) _ (hr2.below hb01) hb01.size (by omega) (plain_of (fn := Tryz.f108) Tryz.func108 (by kernel_rfl) (by kernel_rfl)) (fun w' x hb' _ => swapOut_any x N w.heap.size w' ((B1.below hb' B1.lt).cell 0))
  rw [HF.out] at HC
  have HC := Lib.hid HC
  have k0 := B1.cell 0
  simp only [List.getElem?_toArray, List.getElem?_cons_zero] at k0
  go_wp2_with fail
  refine HC.out.mono ?_
  rintro e w2 ⟨rfl, hb2⟩
  have hb02 := below_step hb01 hb2
  clear k0 HC hb1 hb2 B0 B1 hb0
  go_wp2_with fail
  refine (clone_int A n c _ (r.map (.int .i64)) _ (hr.below hb02) hb02.size (ints_one r) (by omega)).mono ?_
  rintro e w3 ⟨A3, c3, rfl, hown, hb3⟩
  have hb03 := below_step hb02 hb3
  have hown := own_mono hown hb02.size
  have hr3 := (hr2.below hb03)
  clear hb3 hb01 hb02
  go_wp2
  go_loopw [32] (fun i wr => ∃ j : Nat, j ≤ n ∧ i = .int .i64 j ∧ Hid (wr.ownsRow w.heap.size 3 1 (.slice A3 n c3) n (((r.take j).map (swapV t) ++ r.drop j).map (.int .i64))) ∧ Below w.heap.size w wr) (fun i _ => n - (intOf i).toNat)
  case atStart => exact ⟨0, Nat.zero_le _, rfl, Lib.hid (by simpa using hown), hb03⟩
  case round =>
    obtain ⟨j, hj, rfl, HO, hb⟩ := hrel
    by_cases hlt : j < n
    · have hjl : j < r.length := by rw [HR.out]; exact hlt
      have hown := HO.out
      obtain ⟨g, cap, hv, hg, -⟩ := hown.form (by omega)
      obtain ⟨rfl, rfl⟩ : A3 = some ⟨g, 0, none⟩ ∧ c3 = cap := by simpa using hv
      have hF0 := hown.frozenAt j
      have hc0 := hown.cellAt j (by have := hown.1; omega)
      rw [List.getElem?_map, swap_at hjl] at hc0
      have hc1 : wr.cell? ⟨g, j, none⟩ = some (.int .i64 (r[j]'hjl)) := hc0
      have hm := HR4.out _ (List.getElem_mem hjl)
      have HSt := Lib.hid (swap_step (t := t) hjl)
      have HSk := Lib.hid (swap_skip (t := t) hjl)
      generalize r[j]'hjl = v at *
      have hj1 : j + 1 ≤ n := hlt
      by_cases h0 : 0 ≤ v
      · have g0 : decide (0 ≤ v) = true := decide_eq_true h0
        obtain ⟨V, rfl⟩ : ∃ V : Nat, v = V := ⟨v.toNat, by omega⟩
        have hV : V < N := by omega
        obtain ⟨ad, x, rfl, had, hx, cx⟩ := ((hr2.below hb)).num (k := V) hV
        have hxv : swapV t V = x := by unfold swapV; rw [if_pos (by omega), Int.toNat_natCast, List.getD_eq_getElem?_getD, hx]; rfl
        have hst := (hown.stored j (.int .i64 x)).1
        rw [← List.map_set, ← hxv, HSt.out, hxv] at hst
        have HN := Lib.hid hst
        have hbx := hb.setCell (p := ⟨g, j, none⟩) hg (.int .i64 x)
        clear hst hxv hx hown hv hc0 HSt HSk hm
        go_wp2
        go_roundw
        case rel => exact ⟨j + 1, hj1, by go_num, HN, hbx⟩
        case measure => simp [intOf]; omega
      · have g0 : decide (0 ≤ v) = false := decide_eq_false h0
        have HN : Hid (wr.ownsRow w.heap.size 3 1 (.slice (some ⟨g, 0, none⟩) n c3) n (((r.take (j + 1)).map (swapV t) ++ r.drop (j + 1)).map (.int .i64))) := by
          rw [← HSk.out (by omega)]
          exact HO
        clear hown hv hc0 HSt HSk hm HO
        go_wp2
        go_roundw
        case rel => exact ⟨j + 1, hj1, by go_num, HN, hb⟩
        case measure => simp [intOf]; omega
    · have hjn : j = n := by omega
      have HN : Hid (wr.ownsRow w.heap.size 3 1 (.slice A3 n c3) n ((r.map (swapV t)).map (.int .i64))) := by
        have := HO.out
        rw [hjn, List.take_of_length_le (by rw [HR.out]; exact Nat.le_refl _), List.drop_of_length_le (by rw [HR.out]; exact Nat.le_refl _), List.append_nil] at this
        exact this
      have g0 : decide (j < n) = false := decide_eq_false hlt
      clear hjn HO
      go_wp2
      go_ret2
      exact ⟨_, _, rfl, HN.out, hb⟩
end Go.Proofs.YtbmkbnalembbjaaGreatDoor

namespace Go.Proofs.YtbmkbnalembbjaaGreatDoor
open Go.RowKit
theorem info_pin : (Tryz.prog.info? 57).map (fun i => (i.zero, i.size, i.bytes)) = some (some (.agg #[.int .i64 0, .int .i64 0]), 2, 16) := by kernel_rfl
set_option maxHeartbeats 400000 in
theorem equal_pin (A A2 : Option Addr) (n c c2 B B2 : Nat) (l : List Rn) (w : World) (hr : Reads w B 2 A n (runsC l)) (hr2 : Reads w B2 2 A2 n (runsC l)) (hn : n ≤ 1000000000000000000) :
    Calls Tryz.prog 31 #[.slice A n c, .slice A2 n c2] w fun e w' => e = .returned (.bool true) ∧ ∃ q, w' = w.drewN q := by
  go_enter Tryz.func31, Tryz.ntmps31
  go_wp2
  go_loopw [13] (fun i wr => ∃ j : Nat, j ≤ n ∧ i = .int .i64 j ∧ ∃ q, wr = w.drewN q) (fun i _ => n - (intOf i).toNat)
  case atStart => exact ⟨0, Nat.zero_le _, rfl, 0, rfl⟩
  case round =>
    obtain ⟨j, hj, rfl, q, rfl⟩ := hrel
    by_cases hlt : j < n
    · obtain ⟨ad, r, rfl, _, hs, c0, c1⟩ := hr.run hlt
      obtain ⟨ad2, r2, rfl, _, hs2, d0, d1⟩ := hr2.run hlt
      obtain rfl : r = r2 := Option.some.inj (hs.symm.trans hs2)
      obtain ⟨x, y⟩ := r
      dsimp only at *
      have hlt' : (j : Int) < n := by omega
      clear hs hs2
      go_wp2
      go_quiet (fail)
      go_wp2
      go_roundw
      case rel => exact ⟨j + 1, by omega, by go_num, _, rfl⟩
      case measure => simp [intOf]; omega
    · go_wp2
      go_ret
      exact ⟨rfl, _, rfl⟩
set_option maxHeartbeats 400000 in
theorem clone_pin (A : Option Addr) (n c B : Nat) (xs : List Value) (w : World) (hr : Reads w B 2 A n xs) (hB : B ≤ w.heap.size) (h1 : ∀ u ∈ xs, u.oneCell' = true) (hn : n ≤ 1000000) :
    Calls Tryz.prog 17 #[.slice A n c] w fun e w' => ∃ A' c', e = .returned (.slice A' n c') ∧ w'.ownsRow w.heap.size 57 2 (.slice A' n c') n xs ∧ Below w.heap.size w w' := by
  obtain ⟨i0, hi, hz0, hz1, hz2⟩ := info_parts info_pin
  rcases A with _ | ad
  · have hm : n = 0 := by
      rcases Nat.eq_zero_or_pos n with h0 | h0
      · exact h0
      · obtain ⟨ad, h, _⟩ := hr.2 h0
        cases h
    subst hm
    have hx : xs = [] := List.eq_nil_of_length_eq_zero (by simpa using hr.1)
    subst hx
    have hnil := fun (w : World) => Lib.run_eql_slice_nil (P := Tryz.prog) w 24 57 none 0 c 0 0 Tryz.underlying24
    go_enter Tryz.func17, Tryz.ntmps17
    go_wp2
    go_ret
    exact ⟨none, 0, rfl, World.ownsRow_nil _ _ _ _, Below.refl _ _⟩
  · have hnil := fun (w : World) => Lib.run_eql_slice_nil (P := Tryz.prog) w 24 57 (some ad) n c 0 0 Tryz.underlying24
    have hmade := World.ownsRow_made (e := 57) (size := 2) w #[] 0 (Nat.le_refl w.heap.size) (Nat.zero_le _) rfl
    go_enter Tryz.func17, Tryz.ntmps17
    go_wp2_with (at_builtin; refine wpList_append_any _ rfl (.tmp 5) (.tmp 6) 24 rfl w.heap.size 57 i0 _ 2 16 Tryz.underlying24 hi hz0 hz1 hz2 rfl (by decide) (.slice (some ⟨w.heap.size, 0, none⟩) 0 0) 0 [] rfl hmade B (some ad) n c xs rfl (hr.alloc hB _) h1 (by simp [maxLen]; omega) (by omega) (by simp) ?_; rintro v' w1 hown hgr hbl -; obtain ⟨A', c', rfl⟩ := own_slice hown)
    go_ret
    exact ⟨A', c', rfl, by simpa using hown, ((Below.refl _ _).alloc (Nat.le_refl _) _).grown hgr (by simp) (by simp [Value.ownBlock])⟩
end Go.Proofs.YtbmkbnalembbjaaGreatDoor

namespace Go.Proofs.YtbmkbnalembbjaaGreatDoor
open Go.RowKit
theorem begs_bounds {a : List Int} (h : checkE a = 0) {x : Int} (hx : x ∈ begsL (spotsL a)) : 0 ≤ x ∧ x ≤ 256 := by
  obtain ⟨s, hs, rfl⟩ := List.mem_map.1 hx
  exact spots_bounds (checkE_ok.1 h).1 s (List.mem_filter.1 hs).1
theorem begs_lt {a : List Int} (h : checkE a = 0) {x : Int} (hx : x ∈ begsL (spotsL a)) : 0 ≤ x ∧ x < a.length := by
  have h2 := begsL_bounds (checkE_ok.1 h).1 _ hx
  obtain ⟨s, hs, rfl⟩ := List.mem_map.1 hx
  have h1 := ((parse_mem (parse_ok (checkE_ok.1 h).1).2) s (List.mem_filter.1 hs).1).1
  have h3 := h1.fits
  have h4 := h1.r0
  have h5 := h1.b0
  unfold Spot.long at h3
  omega
theorem at_wf {x : Int} (h : 0 ≤ x ∧ x ≤ 256) : (Lit.int .i64 x).wf = true := by
  simp [Lit.wf, IntKind.min, IntKind.max, IntKind.signed, IntKind.bits]; omega
def putsL (t : List Int) : List Int → List Int → List Int
  | x :: f, y :: g => putsL (t.set x.toNat y) f g
  | _, _ => t
theorem putsL_length (f g : List Int) : ∀ t : List Int, (putsL t f g).length = t.length := by
  induction f generalizing g with
  | nil => intro t; cases g <;> rfl
  | cons x f ih =>
    intro t
    cases g with
    | nil => rfl
    | cons y g => rw [putsL, ih, List.length_set]
theorem putsL_snoc {f g : List Int} (h : f.length = g.length) (x y : Int) : ∀ t : List Int, putsL t (f ++ [x]) (g ++ [y]) = (putsL t f g).set x.toNat y := by
  induction f generalizing g with
  | nil => intro t; cases g with
    | nil => rfl
    | cons b g => cases h
  | cons a f ih =>
    intro t
    cases g with
    | nil => cases h
    | cons b g => simp only [List.cons_append, putsL]; exact ih (by simpa using h) _
theorem putsL_mem {f g : List Int} : ∀ {t : List Int} {v : Int}, v ∈ putsL t f g → v ∈ t ∨ v ∈ g := by
  induction f generalizing g with
  | nil => intro t v h; cases g <;> exact .inl h
  | cons x f ih =>
    intro t v h
    cases g with
    | nil => exact .inl h
    | cons y g =>
      rw [putsL] at h
      rcases ih h with h | h
      · rcases List.mem_or_eq_of_mem_set h with h | h
        · exact .inl h
        · exact .inr (by rw [h]; exact List.mem_cons_self)
      · exact .inr (List.mem_cons_of_mem _ h)
theorem putsL_other {f g : List Int} {k : Nat} (h : ∀ x ∈ f, x.toNat ≠ k) : ∀ t : List Int, (putsL t f g)[k]? = t[k]? := by
  induction f generalizing g with
  | nil => intro t; cases g <;> rfl
  | cons x f ih =>
    intro t
    cases g with
    | nil => rfl
    | cons y g =>
      rw [putsL, ih (fun z hz => h z (List.mem_cons_of_mem _ hz)), List.getElem?_set_ne (h x List.mem_cons_self)]
theorem putsL_at {f g : List Int} (hd : f.Nodup) (h0 : ∀ x ∈ f, 0 ≤ x) {i : Nat} {x y : Int} (hx : f[i]? = some x) (hy : g[i]? = some y) : ∀ t : List Int, x.toNat < t.length → (putsL t f g)[x.toNat]? = some y := by
  induction f generalizing g i with
  | nil => simp at hx
  | cons a f ih =>
    intro t ht
    cases g with
    | nil => simp at hy
    | cons b g =>
      rw [putsL]
      cases i with
      | zero =>
        simp only [List.getElem?_cons_zero, Option.some.injEq] at hx hy
        subst hx hy
        have hn := (List.nodup_cons.1 hd).1
        rw [putsL_other (fun z hz he => hn (by have h1 := h0 z (List.mem_cons_of_mem _ hz); have h2 := h0 a List.mem_cons_self; have : z = a := by omega
                                               rwa [← this]))]
        rw [List.getElem?_set_self ht]
      | succ i =>
        simp only [List.getElem?_cons_succ] at hx hy
        exact ih (List.nodup_cons.1 hd).2 (fun z hz => h0 z (List.mem_cons_of_mem _ hz)) hx hy _ (by rw [List.length_set]; exact ht)
theorem own_blk {w : World} {base size n g : Nat} {e t : TypeId} {v : Value} {xs : List Value} {cs : Array Value} (h : w.ownsRow base e size v n xs) (hB : Blk w g t cs) (hne : e ≠ t) : v.ownBlock ≠ some g := by
  intro hg
  rcases h.2 with ⟨rfl, _⟩ | ⟨g1, cap, cur, rfl, _, hh, _⟩
  · cases hg
  · obtain rfl : g1 = g := by simpa [Value.ownBlock] using hg
    have hB : w.heap[g1]? = some (.cells cs t (0, 0)) := hB
    rw [hh] at hB
    injection hB with hB
    injection hB with _ hB
    exact hne hB
theorem puts_in {a f p L Y b now : List Int} (h : CleanIs a f p L Y b now) (k : Nat) (hk : a.length ≤ k) : ∀ v ∈ putsL (List.replicate k 0) f now, 0 ≤ v ∧ v < k := by
  have hC := cleaned_of h
  intro v hv
  rcases putsL_mem hv with h1 | h1
  · obtain ⟨h2, rfl⟩ := List.mem_replicate.1 h1
    omega
  · have h2 := begs_lt hC.laid.check (hC.alive v (List.mem_append_left _ h1))
    have h3 := hC.laid.len
    omega
theorem two_made (w : World) (base n k : Nat) (hb : base ≤ w.heap.size) (hn : n ≤ maxLen) (hk : k ≤ maxLen) :
    ((w.alloc (.cells (madeCells #[.int .i64 0] n) 3)).alloc (.cells (madeCells #[.int .i64 0] k) 3)).ownsRow base 3 1 (.slice (some ⟨w.heap.size, 0, none⟩) n n) n (List.replicate n (.int .i64 0)) ∧
    ((w.alloc (.cells (madeCells #[.int .i64 0] n) 3)).alloc (.cells (madeCells #[.int .i64 0] k) 3)).ownsRow base 3 1 (.slice (some ⟨w.heap.size + 1, 0, none⟩) k k) k (List.replicate k (.int .i64 0)) ∧
    Below base w ((w.alloc (.cells (madeCells #[.int .i64 0] n) 3)).alloc (.cells (madeCells #[.int .i64 0] k) 3)) := by
  have h1 := own_make1 w base 3 (.int .i64 0) n _ rfl hb hn
  have h2 := own_make1 (w.alloc (.cells (madeCells #[.int .i64 0] n) 3)) base 3 (.int .i64 0) k _ rfl (by rw [World.size_alloc]; omega) hk
  rw [World.size_alloc] at h2
  have hb1 := (Below.refl base w).alloc hb (.cells (madeCells #[.int .i64 0] n) 3)
  exact ⟨h1.alloc _, h2, hb1.alloc (by rw [World.size_alloc]; omega) _⟩
def freeL (b : List Int) : Int := rsum (ggL b)
end Go.Proofs.YtbmkbnalembbjaaGreatDoor

namespace Go.Proofs.YtbmkbnalembbjaaGreatDoor
open Go.RowKit
set_option maxRecDepth 100000 in
set_option maxHeartbeats 2000000 in
theorem collect_ok (A : Option Addr) (n c : Nat) (RA : Option Addr) (rn rc : Nat) (PA : Option Addr) (pn pc : Nat) (HA : Option Addr) (hn hc : Nat) (a r : List Int) (p : List Rn) (l : List Slot) (w : World)
    (hra : Reads w w.heap.size 1 A n (a.map (.int .u64))) (hnc : n ≤ c) (hcm : c ≤ maxLen) (ha : ∀ x ∈ a, (Lit.int .u64 x).wf = true)
    (hrr : Reads w w.heap.size 1 RA rn (r.map (.int .i64))) (hrp : Reads w w.heap.size 2 PA pn (runsC p)) (hrl : Reads w w.heap.size 3 HA hn (slotsC l)) (hOK : StoreOk a r l p) :
    Calls Tryz.prog 37 #[.agg #[.slice A n c, .slice RA rn rc, .slice PA pn pc, .slice HA hn hc]] w fun e w' => Below w.heap.size w w' ∧ ∃ (L Y b now : List Int) (A1 : Option Addr) (c1 : Nat) (A2 : Option Addr) (c2 : Nat) (A3 : Option Addr) (c3 : Nat) (A4 : Option Addr) (c4 : Nat),
      CleanIs a (fromL r l p) (pinsL p) L Y b now ∧ e = .returned (.tuple #[.agg #[.slice A1 n c1, .slice A2 rn c2, .slice A3 pn c3, .slice A4 hn c4], .int .i64 (freeL b)]) ∧
      w'.ownsRow w.heap.size 45 1 (.slice A1 n c1) n (b.map (.int .u64)) ∧
      w'.ownsRow w.heap.size 3 1 (.slice A2 rn c2) rn ((r.map (swapV (putsL (List.replicate n 0) (fromL r l p) now))).map (.int .i64)) ∧
      w'.ownsRow w.heap.size 57 2 (.slice A3 pn c3) pn (runsC p) ∧
      w'.ownsRow w.heap.size 60 3 (.slice A4 hn c4) hn (slotsC (l.map (swapS (putsL (List.replicate 256 0) (fromL r l p) now)))) := by
  have hal : a.length = n := by have := hra.1; simpa using this
  have hll : l.length = hn := by have := hrl.1; rw [slotsC_length] at this; omega
  have hpl : p.length = pn := by have := hrp.1; rw [runsC_length] at this; omega
  have hrl' : r.length = rn := by have := hrr.1; simpa using this
  have hpn := hOK.pins.len
  have hhn := (handE_ok.1 hOK.hands).1
  have hrE := hOK.roots
  rw [hal] at hrE
  obtain ⟨-, r1, r2, -⟩ := rootE_ok hrE
  obtain ⟨i0, hi, hz0, hz1, hz2⟩ := info_parts info_int
  have hmk := fun W => run_make_rowN (P := Tryz.prog) 23 3 i0 (.int .i64 0) Tryz.underlying23 hi hz0 .i64 .i64 n n (Nat.le_refl _) (by rw [hz2]; omega) (by omega) W
  have hmk2 : ∀ W, (Instr.makeSlice 23 (.int .i64 256) (.int .i64 256)).run Tryz.prog W = .ok (.slice (some ⟨W.heap.size, 0, none⟩) 256 256) (W.alloc (.cells (madeCells (Value.int .i64 0).cells (256 * i0.size)) 3)) := fun W => run_make_rowN (P := Tryz.prog) 23 3 i0 (.int .i64 0) Tryz.underlying23 hi hz0 .i64 .i64 256 256 (Nat.le_refl _) (by rw [hz2]; omega) (by omega) W
  rw [hz1, Nat.mul_one] at hmk hmk2
  have hn256 : n ≤ 256 := by omega
  have hLl := fromL_length r l p
  have hpL : (pinsL p).length = pn := by unfold pinsL; rw [List.length_map, hpl]
  have HFr := Lib.hid (fun w hrr hrp hrl => from_any A n c RA rn rc PA pn pc HA hn hc r p l w hrr hrp hrl (by omega) (by omega) hrE)
  have HP := Lib.hid (fun w hr => pinned_any A n c RA rn rc PA pn pc HA hn hc p w hr (by omega))
  have hfw : ∀ x ∈ fromL r l p, (Lit.int .i64 x).wf = true := fun x hx => at_wf (begs_bounds hOK.arena (hOK.live x hx))
  have hpw : ∀ x ∈ pinsL p, (Lit.int .i64 x).wf = true := fun x hx => at_wf (begs_bounds hOK.arena (hOK.pinned x hx))
  obtain ⟨m, hm⟩ : ∃ m, m = (fromL r l p).length := ⟨_, rfl⟩
  have HCl := Lib.hid (fun A2 c2 A3 c3 w hr hr2 hr3 => clean_any A n c a A2 m c2 (fromL r l p) A3 pn c3 (pinsL p) w hr hnc hcm ha hr2 (by omega) hfw hr3 (by omega) hpw)
  have HOK := Lib.hid hOK
  have HC := Lib.hid hOK.clean
  rw [← hm] at HFr
  rw [hpL] at HP
  have HBG : Hid (∀ x ∈ fromL r l p, 0 ≤ x ∧ x < n) := fun x hx => by
    obtain ⟨s, hs, rfl⟩ := List.mem_map.1 (hOK.live x hx)
    have hs := (List.mem_filter.1 hs).1
    have h1 := ((parse_mem (parse_ok (checkE_ok.1 hOK.arena).1).2) s hs).1
    have h2 := begsL_bounds (checkE_ok.1 hOK.arena).1 _ (hOK.live _ hx)
    have h3 := h1.fits
    have h4 := h1.r0
    have h5 := h1.b0
    unfold Spot.long at h3
    omega
  have HM := Lib.hid hm
  have hOKl : Hid (pn ≤ 16) := by show _ ≤ _; omega
  have hm64 : m ≤ 64 := by omega
  generalize fromL r l p = f at *
  generalize pinsL p = q at *
  have hb0 := below_new w (.cells #[.slice A n c, .slice RA rn rc, .slice PA pn pc, .slice HA hn hc] 28)
  have hb1 := hb0.alloc hb0.size (.cells #[.slice none 0 0, .slice none 0 0, .slice none 0 0, .slice none 0 0] 28)
  have DS := (Blk.new w 28 #[.slice A n c, .slice RA rn rc, .slice PA pn pc, .slice HA hn hc]).alloc (.cells #[.slice none 0 0, .slice none 0 0, .slice none 0 0, .slice none 0 0] 28)
  have DR := Blk.new (w.alloc (.cells #[.slice A n c, .slice RA rn rc, .slice PA pn pc, .slice HA hn hc] 28)) 28 #[.slice none 0 0, .slice none 0 0, .slice none 0 0, .slice none 0 0]
  rw [World.size_alloc] at DR
  obtain ⟨s0, s1, s2, s3⟩ := DS.four
  have HRL := Lib.hid (And.intro hrl' (And.intro hll (And.intro hpl hal)))
  clear hal hll hpl hrl' hpn hhn hrE r1 r2 hLl hpL hfw hpw hm hOK hb0
  go_enter Tryz.func37, Tryz.ntmps37
  go_wp2_with fail
  refine (HFr.out _ ((hrr.below hb1).more hb1.size) ((hrp.below hb1).more hb1.size) ((hrl.below hb1).more hb1.size)).mono ?_
  rintro e w2 ⟨A2, c2, rfl, hown2, hb2⟩
  have hrF := Reads.of_own hown2
  have DS := DS.below hb2 DS.lt
  have DR := DR.below hb2 DR.lt
  have hb02 := below_step hb1 hb2
  clear s0 s1 s2 s3 hb1 hb2 hown2
  go_upto_region 2 with fail
  have hb := hb02.drew
  have DS := DS.drew
  have DR := DR.drew
  have hrF := hrF.drew
  obtain ⟨s0, s1, s2, s3⟩ := DS.four
  go_region_held3 (fun w' => w'.cell? ⟨w.heap.size, 0, none⟩ = some (.slice A n c) ∧ w'.cell? ⟨w.heap.size, 1, none⟩ = some (.slice RA rn rc) ∧ w'.cell? ⟨w.heap.size, 2, none⟩ = some (.slice PA pn pc) ∧ w'.cell? ⟨w.heap.size, 3, none⟩ = some (.slice HA hn hc)) (go_keep)
    (first
      | (go_at_call 71; (with_reducible refine (HP.out _ ((hrp.below hb).more hb.size)).mono ?_); rintro e wA ⟨A3, c3, rfl, hownA, hbA⟩; have DS := DS.below hbA DS.lt; have DR := DR.below hbA DR.lt; obtain ⟨s0, s1, s2, s3⟩ := DS.four; have hrQ := Reads.of_own hownA; have hrF := (hrF.below hbA).more hbA.size; have hb := hb.trans (hbA.mono hb.size))
      | (go_at_call 70; (with_reducible refine (HCl.out A2 c2 A3 c3 _ ((hra.below hb).more hb.size) hrF hrQ).mono ?_); rintro e wB ⟨hbB, h⟩; rcases h with ⟨-, L, Y, b, now, A5, c5, A6, c6, hIs, rfl, hown5, hown6⟩ | ⟨hno, -⟩; rotate_left 1; exact absurd HC.out hno; have DS := DS.below hbB DS.lt; have DR := DR.below hbB DR.lt; obtain ⟨s0, s1, s2, s3⟩ := DS.four; have hown5 := own_mono hown5 hb.size; have hown6 := own_mono hown6 hb.size; have hrF := (hrF.below hbB).more hbB.size; have hb := hb.trans (hbB.mono hb.size)))
  have HO5 := Lib.hid hown5
  have HO6 := Lib.hid hown6
  have HIS := Lib.hid hIs
  clear hown5 hown6 hIs hownA hrQ HCl HC HP HFr
  go_wp2_with fail
  refine (clone_pin PA pn pc _ (runsC p) _ (hrp.below hb) hb.size (runsC_one _) (by have := hOKl.out; omega)).mono ?_
  rintro e w4 ⟨A7, c7, rfl, hown7, hb7⟩
  have hown7 := own_mono hown7 hb.size
  have DS := DS.below hb7 DS.lt
  have DR := DR.below hb7 DR.lt
  have HO5 := Lib.hid (own_below HO5.out hb7)
  have HO6 := Lib.hid (own_below HO6.out hb7)
  have hrF := hrF.below hb7
  have hb := hb.trans (hb7.mono hb.size)
  obtain ⟨s0, s1, s2, s3⟩ := DS.four
  have hbo := hb.alloc hb.size (.cells #[.slice A5 n c5, .slice none 0 0, .slice A7 pn c7, .slice none 0 0] 28)
  have DO := Blk.new w4 28 #[.slice A5 n c5, .slice none 0 0, .slice A7 pn c7, .slice none 0 0]
  go_upto_region 4 with fail
  go_cut [9, 10] from 11 to 98 (fun s9 s10 wc => ∃ g1 g2, s9 = .slice (some ⟨g1, 0, none⟩) n n ∧ s10 = .slice (some ⟨g2, 0, none⟩) 256 256 ∧ g1 ≠ g2 ∧
    wc.ownsRow (w4.heap.size + 1) 3 1 (.slice (some ⟨g1, 0, none⟩) n n) n (List.replicate n (.int .i64 0)) ∧ wc.ownsRow (w4.heap.size + 1) 3 1 (.slice (some ⟨g2, 0, none⟩) 256 256) 256 (List.replicate 256 (.int .i64 0)) ∧
    Below (w4.heap.size + 1) (w4.alloc (.cells #[.slice A5 n c5, .slice none 0 0, .slice A7 pn c7, .slice none 0 0] 28)) wc)
  case first =>
    have DSo := DS.alloc (.cells #[.slice A5 n c5, .slice none 0 0, .slice A7 pn c7, .slice none 0 0] 28)
    obtain ⟨s0, s1, s2, s3⟩ := DSo.four
    obtain ⟨d0, d1, d2, d3⟩ := DSo.drew.four
    have e0 := fun o => (DSo.alloc o).four.1
    have e1 := fun o => (DSo.drew.alloc o).four.1
    go_region
    all_goals
      go_wp2_with fail
      go_meet
      have T1 := two_made (w4.alloc (.cells #[.slice A5 n c5, .slice none 0 0, .slice A7 pn c7, .slice none 0 0] 28)) (w4.heap.size + 1) n 256 (by rw [World.size_alloc]; exact Nat.le_refl _) (by unfold maxLen; omega) (by unfold maxLen; omega)
      have T2 := two_made (w4.alloc (.cells #[.slice A5 n c5, .slice none 0 0, .slice A7 pn c7, .slice none 0 0] 28)) (w4.heap.size + 1) 256 n (by rw [World.size_alloc]; exact Nat.le_refl _) (by unfold maxLen; omega) (by unfold maxLen; omega)
      rw [World.size_alloc] at T1 T2
    · refine ⟨w4.heap.size + 1, w4.heap.size + 1 + 1, rfl, rfl, by omega, ?_, ?_, ?_⟩
      · first | exact T1.1 | exact T1.1.drew
      · first | exact T1.2.1 | exact T1.2.1.drew
      · first | exact T1.2.2 | exact T1.2.2.drew
    · refine ⟨w4.heap.size + 1 + 1, w4.heap.size + 1, rfl, rfl, by omega, ?_, ?_, ?_⟩
      · first | exact T2.2.1 | exact T2.2.1.drew
      · first | exact T2.1 | exact T2.1.drew
      · first | exact T2.2.2 | exact T2.2.2.drew
  case rest =>
    obtain ⟨g1, g2, rfl, rfl, hg, hO1, hO2, hbw⟩ := hcut
    have hrN := Reads.of_own HO6.out
    have hnl : now.length = m := by have := hrN.1; simpa using this
    have HNL := Lib.hid hnl
    have hO1 : wc.ownsRow (w4.heap.size + 1) 3 1 (.slice (some ⟨g1, 0, none⟩) n n) n ((putsL (List.replicate n 0) (f.take 0) (now.take 0)).map (.int .i64)) := by simpa [putsL] using hO1
    have hO2 : wc.ownsRow (w4.heap.size + 1) 3 1 (.slice (some ⟨g2, 0, none⟩) 256 256) 256 ((putsL (List.replicate 256 0) (f.take 0) (now.take 0)).map (.int .i64)) := by simpa [putsL] using hO2
    clear hnl
    go_wp2_with fail
    go_loopw [42] (fun i wr => ∃ j : Nat, j ≤ m ∧ i = .int .i64 j ∧ wr.ownsRow (w4.heap.size + 1) 3 1 (.slice (some ⟨g1, 0, none⟩) n n) n ((putsL (List.replicate n 0) (f.take j) (now.take j)).map (.int .i64)) ∧ wr.ownsRow (w4.heap.size + 1) 3 1 (.slice (some ⟨g2, 0, none⟩) 256 256) 256 ((putsL (List.replicate 256 0) (f.take j) (now.take j)).map (.int .i64)) ∧ Below (w4.heap.size + 1) (w4.alloc (.cells #[.slice A5 n c5, .slice none 0 0, .slice A7 pn c7, .slice none 0 0] 28)) wr) (fun i _ => m - (intOf i).toNat)
    case atStart => exact ⟨0, Nat.zero_le _, rfl, hO1, hO2, hbw⟩
    case round =>
      obtain ⟨j, hj, rfl, hO1, hO2, hbr⟩ := hrel
      by_cases hlt : j < m
      · have hb4 : Below w4.heap.size w4 wr := (below_new w4 _).trans (hbr.mono (Nat.le_succ _))
        obtain ⟨ad, x, rfl, had, hx, cx⟩ := ((hrF.more hb7.size).below hb4).num hlt
        obtain ⟨ad2, y, rfl, had2, hy, cy⟩ := (hrN.below hb4).num hlt
        have hxn := HBG.out x (List.mem_of_getElem? hx)
        have hfl : (f.take j).length = (now.take j).length := by rw [List.length_take, List.length_take, HNL.out, ← HM.out]
        have HF : Hid (f.take (j + 1) = f.take j ++ [x]) := by
          show _ = _
          obtain ⟨h1, rfl⟩ := List.getElem?_eq_some_iff.1 hx
          exact List.take_succ_eq_append_getElem h1
        have HN : Hid (now.take (j + 1) = now.take j ++ [y]) := by
          show _ = _
          obtain ⟨h1, rfl⟩ := List.getElem?_eq_some_iff.1 hy
          exact List.take_succ_eq_append_getElem h1
        obtain ⟨X, rfl⟩ : ∃ X : Nat, x = X := ⟨x.toNat, by omega⟩
        have hX : X < n := by omega
        have e1 : X < ((putsL (List.replicate n 0) (f.take j) (now.take j)).map (Value.int .i64)).length := by rw [List.length_map, putsL_length, List.length_replicate]; exact hX
        have e2 : X < ((putsL (List.replicate 256 0) (f.take j) (now.take j)).map (Value.int .i64)).length := by rw [List.length_map, putsL_length, List.length_replicate]; omega
        have cc1 := hO1.cellAt X (by rw [List.length_map, putsL_length, List.length_replicate] at e1; omega)
        have cc2 := hO2.cellAt X (by rw [List.length_map, putsL_length, List.length_replicate] at e2; omega)
        rw [List.getElem?_eq_getElem e1] at cc1
        rw [List.getElem?_eq_getElem e2] at cc2
        have f1 := hO1.frozenAt X
        have f2 := hO2.frozenAt X
        have hX256 : X < 256 := by omega
        have hj1 : j + 1 ≤ m := hlt
        have gg1 := (hO1.lt g1 rfl).1
        have gg2 := (hO2.lt g2 rfl).1
        have hv1 : (Value.slice (some ⟨g1, 0, none⟩) n n).ownBlock ≠ some g2 := by simpa [Value.ownBlock] using hg
        have hv2 : (Value.slice (some ⟨g2, 0, none⟩) 256 256).ownBlock ≠ some g1 := by simpa [Value.ownBlock] using fun h : g2 = g1 => hg h.symm
        have T1 := own_apart (hO1.stored X (.int .i64 y)).1 (p := ⟨g2, X, none⟩) hv1 (.int .i64 y)
        have T2 := own_apart (hO2.stored X (.int .i64 y)).1 (p := ⟨g1, X, none⟩) hv2 (.int .i64 y)
        have T3 := ((own_apart hO1 (p := ⟨g2, X, none⟩) hv1 (.int .i64 y)).stored X (.int .i64 y)).1
        have T4 := ((own_apart hO2 (p := ⟨g1, X, none⟩) hv2 (.int .i64 y)).stored X (.int .i64 y)).1
        rw [← List.map_set] at T1 T2 T3 T4
        have hs1 := putsL_snoc hfl (X : Int) y (List.replicate n 0)
        have hs2 := putsL_snoc hfl (X : Int) y (List.replicate 256 0)
        rw [Int.toNat_natCast] at hs1 hs2
        rw [← hs1, ← HF.out, ← HN.out] at T1 T3
        rw [← hs2, ← HF.out, ← HN.out] at T2 T4
        have OA1 := Lib.hid T1
        have OA2 := Lib.hid T2
        have OA3 := Lib.hid T3
        have OA4 := Lib.hid T4
        have hb12 := (hbr.setCell (p := ⟨g1, X, none⟩) gg1 (.int .i64 y)).setCell (p := ⟨g2, X, none⟩) gg2 (.int .i64 y)
        have hb21 := (hbr.setCell (p := ⟨g2, X, none⟩) gg2 (.int .i64 y)).setCell (p := ⟨g1, X, none⟩) gg1 (.int .i64 y)
        clear T1 T2 T3 T4 hs1 hs2 hv1 hv2 hx hy hfl hO1 hO2
        go_wp2
        go_region
        all_goals
          go_wp2
          go_roundw
          case rel => first
            | exact ⟨j + 1, hj1, by go_num, OA1.out, OA4.out, hb12⟩
            | exact ⟨j + 1, hj1, by go_num, OA3.out, OA2.out, hb21⟩
            | exact ⟨j + 1, hj1, by go_num, OA1.out.drew, OA4.out.drew, hb12.drew⟩
            | exact ⟨j + 1, hj1, by go_num, OA3.out.drew, OA2.out.drew, hb21.drew⟩
          case measure => simp [intOf]; omega
      · have hjm : j = m := by omega
        have e1 : f.take j = f := List.take_of_length_le (by rw [← HM.out]; omega)
        have e2 : now.take j = now := List.take_of_length_le (by rw [HNL.out]; omega)
        rw [e1, e2] at hO1 hO2
        have hIs := HIS.out
        obtain ⟨n1, n2, n3, n4⟩ := HRL.out
        have hp1 := puts_in hIs n (by omega)
        have hp2 := puts_in hIs 256 (by omega)
        have hl1 : (putsL (List.replicate n 0) f now).length = n := by rw [putsL_length, List.length_replicate]
        have hSE : swapE r n (putsL (List.replicate n 0) f now) = 0 := swapE_of (by have := HOK.out.roots; rwa [n4] at this) (by rw [hl1]) (fun v hv => by have := hp1 v hv; omega)
        have HSw := Lib.hid (fun w hr hr2 => swap_ok RA (some ⟨g1, 0, none⟩) rn rc n n r (putsL (List.replicate n 0) f now) w hr hr2 hSE)
        have HHs := Lib.hid (fun w hr hr2 => handSwap_ok HA (some ⟨g2, 0, none⟩) hn hc 256 l (putsL (List.replicate 256 0) f now) w hr hr2 HOK.out.hands hp2)
        have hb4 : Below w4.heap.size w4 wr := (below_new w4 _).trans (hbr.mono (Nat.le_succ _))
        have DSr := DS.below hb4 DS.lt
        have DOr := DO.below hbr (Nat.lt_succ_self _)
        have hb0r := hb.trans (hb4.mono hb.size)
        obtain ⟨s0, s1, s2, s3⟩ := DSr.four
        obtain ⟨o0, o1, o2, o3⟩ := DOr.four
        have hr1 := Reads.of_own hO1
        have hr2 := Reads.of_own hO2
        clear e1 e2 hIs n1 n2 n3 n4 hp1 hp2 hl1 hSE
        go_wp2_with fail
        refine (HSw.out _ ((hrr.below hb0r).more hb0r.size) hr1).mono ?_
        rintro e w5 ⟨A8, c8, rfl, hown8, hb5⟩
        have hb0s := below_step hb0r hb5
        have DS5 := (DSr.below hb5 DSr.lt).far (p := ⟨w4.heap.size, 1, none⟩) (by have := DS.lt; dsimp only; omega) (.slice A8 rn c8)
        have DO5 := (DOr.below hb5 DOr.lt).set_ 1 (.slice A8 rn c8)
        have hO25 := own_apart (own_below hO2 hb5) (p := ⟨w4.heap.size, 1, none⟩) (own_off (own_below hO2 hb5) (Nat.lt_succ_self _)) (.slice A8 rn c8)
        have hO85 := own_apart hown8 (p := ⟨w4.heap.size, 1, none⟩) (own_off hown8 DOr.lt) (.slice A8 rn c8)
        have hbt := hb0s.setCell (p := ⟨w4.heap.size, 1, none⟩) hb.size (.slice A8 rn c8)
        have fo := (DOr.below hb5 DOr.lt).frozen 1
        obtain ⟨p0, p1, p2, p3⟩ := (DOr.below hb5 DOr.lt).four
        obtain ⟨t0, t1, t2, t3⟩ := DS5.four
        have hr25 := Reads.of_own hO25
        clear s0 s1 s2 s3 o0 o1 o2 o3 HSw hr1 hr2
        go_wp2_with fail
        refine (HHs.out _ ((hrl.below hbt).more hbt.size) hr25).mono ?_
        rintro e w6 ⟨A9, c9, rfl, hown9, hb6⟩
        have hbu := below_step hbt hb6
        have DO6 := DO5.below hb6 (by have := DO5.lt; exact this)
        obtain ⟨q0, q1, q2, q3⟩ := DO6.four
        have fo3 := DO6.frozen 3
        clear t0 t1 t2 t3 p0 p1 p2 p3 fo HHs
        have hbv := hbu.setCell (p := ⟨w4.heap.size, 3, none⟩) hb.size (.slice A9 hn c9)
        have DO7 := DO6.set_ 3 (.slice A9 hn c9)
        go_upto_region 13 with fail
        have k1 := (below_step hb4 hb5).setCell (p := ⟨w4.heap.size, 1, none⟩) (Nat.le_refl _) (.slice A8 rn c8)
        have k2 := (below_step k1 hb6).setCell (p := ⟨w4.heap.size, 3, none⟩) (Nat.le_refl _) (.slice A9 hn c9)
        have hOb := own_below HO5.out k2
        have hOp := own_below hown7 k2
        have hbw := ((cleaned_of HIS.out).wf HIS.out ha).1
        have hnc5 := own_cap hOb
        have hrB := Reads.of_own hOb
        have HGp := Lib.hid (fun w hr => ggapsE_any A5 n c5 b w hr hnc5 hbw)
        go_wp2_with fail
        refine (HGp.out _ hrB).mono ?_
        rintro e w8 ⟨hb8, A10, c10, rfl, hownG⟩
        obtain ⟨-, -, gl, -, gn⟩ := (cleaned_of HIS.out).gaps HIS.out
        have HFL : Hid (freeL b = rsum (ggL b)) := rfl
        have hrG := Reads.of_own hownG
        have k3 := below_step k2 hb8
        have hb08 := below_step hbv hb8
        generalize ggL b = G at *
        obtain ⟨g, hgl⟩ : ∃ g, g = G.length := ⟨_, rfl⟩
        rw [← hgl] at hrG gn ⊢
        have HGL := Lib.hid hgl
        have HRT := Lib.hid (rsum_takeG gl)
        have DO8 := DO7.below hb8 (by have := DO7.lt; exact this)
        clear gl hgl hbw hnc5 hrB HGp hownG q0 q1 q2 q3 fo3
        go_wp2_with fail
        go_loopw [13, 88] (fun fr i wz => ∃ (j : Nat) (u : Int), j ≤ g ∧ i = .int .i64 j ∧ fr = .int .i64 u ∧ 0 ≤ u ∧ u ≤ 65792 ∧ Hid (u = rsum (G.take j)) ∧ Below w8.heap.size w8 wz) (fun _ i _ => g - (intOf i).toNat)
        case atStart => exact ⟨0, 0, Nat.zero_le _, rfl, rfl, by omega, by omega, by show _ = _; simp [rsum], Below.refl _ _⟩
        case round =>
          obtain ⟨i, u, hi, rfl, rfl, hu0, hu1, hu, hbz⟩ := hrel
          by_cases hlt : i < g
          · obtain ⟨ad, r, rfl, had, hs, c0, c1⟩ := (hrG.below hbz).run hlt
            have HT : Hid (G.take (i + 1) = G.take i ++ [r]) := by
              show _ = _
              obtain ⟨h1, rfl⟩ := List.getElem?_eq_some_iff.1 hs
              exact List.take_succ_eq_append_getElem h1
            have HU2 : Hid (u + r.len = rsum (G.take (i + 1))) := by
              show _ = _
              rw [HT.out, rsum_append, hu.out]
              simp only [rsum]
              omega
            have hbd2 : 0 ≤ u + r.len ∧ u + r.len ≤ 65792 := by
              have hbd := HRT.out (i + 1) (by have := HGL.out; omega)
              have hu2 := HU2.out
              omega
            obtain ⟨lo, k⟩ := r
            dsimp only at *
            have hw : IntKind.i64.wrap (u + k) = u + k := IntWalk.i64_in _ (by omega)
            have hbx := hbz.alloc hbz.size (.cells #[.int .i64 lo, .int .i64 k] 133)
            clear hs
            go_wp2_with fail
            go_roundw
            case rel => exact ⟨i + 1, u + k, by omega, by go_num, rfl, hbd2.1, hbd2.2, HU2, hbx⟩
            case measure => simp [intOf]; omega
          · have hig : i = g := by omega
            subst hig
            rw [List.take_of_length_le (by rw [← HGL.out]; exact Nat.le_refl _)] at hu
            have HU : Hid (freeL b = u) := by show _ = _; rw [HFL.out, hu.out]
            have k4 := below_step k3 hbz
            have DOz := DO8.below hbz DO8.lt
            have DRz := DR.below k4 DR.lt
            obtain ⟨o0, o1, o2, o3⟩ := DOz.four
            obtain ⟨r0, r1, r2, r3⟩ := DRz.four
            have fr0 := DRz.frozen 0
            have fr1 := DRz.frozen 1
            have fr2 := DRz.frozen 2
            have fr3 := DRz.frozen 3
            have hOr := own_below (own_below (own_apart (own_below hO85 hb6) (p := ⟨w4.heap.size, 3, none⟩) (own_off (own_below hO85 hb6) DOr.lt) (.slice A9 hn c9)) hb8) (hbz)
            have hOh := own_below (own_below (own_apart hown9 (p := ⟨w4.heap.size, 3, none⟩) (own_off hown9 (by have := DO5.lt; exact this)) (.slice A9 hn c9)) hb8) (hbz)
            have hOa := own_below HO5.out k4
            have hOq := own_below hown7 k4
            have hbE := below_step hb08 hbz
            have HA1 := Lib.hid hOa
            have HA2 := Lib.hid hOr
            have HA3 := Lib.hid hOq
            have HA4 := Lib.hid hOh
            have n1 := own_blk hOa DRz (by decide)
            have n2 := own_blk hOr DRz (by decide)
            have n3 := own_blk hOq DRz (by decide)
            have n4 := own_blk hOh DRz (by decide)
            go_wp2_with fail
            have z4 := (((DRz.set_ 0 (.slice A5 n c5)).set_ 1 (.slice A8 rn c8)).set_ 2 (.slice A7 pn c7)).set_ 3 (.slice A9 hn c9)
            have q4 : ∀ {base e size k v xs}, World.ownsRow wr base e size v k xs → v.ownBlock ≠ some (w.heap.size + 1) → World.ownsRow ((((wr.setCell ⟨w.heap.size + 1, 0, none⟩ (.slice A5 n c5)).setCell ⟨w.heap.size + 1, 1, none⟩ (.slice A8 rn c8)).setCell ⟨w.heap.size + 1, 2, none⟩ (.slice A7 pn c7)).setCell ⟨w.heap.size + 1, 3, none⟩ (.slice A9 hn c9)) base e size v k xs :=
              fun h hne => own_apart (own_apart (own_apart (own_apart h (p := ⟨w.heap.size + 1, 0, none⟩) hne _) (p := ⟨w.heap.size + 1, 1, none⟩) hne _) (p := ⟨w.heap.size + 1, 2, none⟩) hne _) (p := ⟨w.heap.size + 1, 3, none⟩) hne _
            refine bodyPost_ret (v := .tuple #[.agg #[.slice A5 n c5, .slice A8 rn c8, .slice A7 pn c7, .slice A9 hn c9], .int .i64 u]) ?_ rfl ⟨?_, L, Y, b, now, A5, c5, A8, c8, A7, c7, A9, c9, HIS.out, ?_, ?_, ?_, ?_, ?_⟩
            · obtain ⟨z0, z1, z2, z3⟩ := z4.four
              simp only [results, Tryz.results37]
              go_simp
            · exact (((hbE.setCell (p := ⟨w.heap.size + 1, 0, none⟩) (Nat.le_succ _) _).setCell (p := ⟨w.heap.size + 1, 1, none⟩) (Nat.le_succ _) _).setCell (p := ⟨w.heap.size + 1, 2, none⟩) (Nat.le_succ _) _).setCell (p := ⟨w.heap.size + 1, 3, none⟩) (Nat.le_succ _) _
            · rw [HU.out]
            · exact q4 HA1.out n1
            · exact q4 (own_mono HA2.out (by have := hb0r.size; omega)) n2
            · exact q4 HA3.out n3
            · exact q4 (own_mono HA4.out hbt.size) n4
end Go.Proofs.YtbmkbnalembbjaaGreatDoor
