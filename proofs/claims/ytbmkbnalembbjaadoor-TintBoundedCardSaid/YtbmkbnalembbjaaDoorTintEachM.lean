/-
  package tint: heap.each with a method value.
-/
import Derived.Test.YtbmkbnalembbjaaDoorTintEach
namespace Go.Proofs.YtbmkbnalembbjaaDoor
open Go.RowKit

set_option maxRecDepth 100000 in
set_option maxHeartbeats 2000000 in
theorem eachM_any (F : Nat) (rv : Value) (gh b B : Nat) (A Ao : Option Addr) (n c k co : Nat) (a : List Int) (S : List Spot) (s : Spot) (w : World) (hBh : Blk w gh 53 #[.slice A n c, .map (some b), .slice Ao k co]) (hM : MapIs w Tryd.prog 3 .i64 b 300 (headF S))
    (hs : spotAt S s.loc = some s) (hok : SpotOk a s) (hr : Reads w B 1 A n (a.map (.int .u64))) (hnc : n ≤ c) (hn : n ≤ 256) (hP : Plain Tryd.prog F) (hlk : ∀ v ∈ refsOf a s, v = 0 ∨ 1 ≤ v ∧ v ≤ 256)
    (Inv : List Int → World → Prop) (hI : Inv [] w) (hID : ∀ l w q, Inv l w → Inv l (w.drewN q)) (hIR : ∀ l w', Inv l w' → Reads w' B 1 A n (a.map (.int .u64)))
    (HC : ∀ (l : List Int) (y : Int) (w' : World), Inv l w' → y ∈ linksL a s → Calls Tryd.prog F #[rv, .int .i64 y] w' fun e w'' => e = .returned (.tuple #[]) ∧ Inv (l ++ [y]) w'') :
    Calls Tryd.prog 19 #[.pointer (some ⟨gh, 0, none⟩), .int .i64 s.loc, .func (.func F) #[rv] #[]] w fun e w' => e = .returned (.tuple #[]) ∧ Inv (linksL a s) w' := by
  have hal : a.length = n := by have := hr.1; simpa using this
  have l0 := hok.loc0
  have r0 := hok.r0
  have b0 := hok.b0
  have ft := hok.fits
  have hrl := refsOf_length hok
  have e1 : headF S s.loc = some (headC s) := by unfold headF; rw [hs]; rfl
  have HLOOK := fun q => (hM.drewN q).look (k := 3) (t := 51) Tryd.underlying3 Tryd.underlying51 (zero_head _) (x := s.loc) (by unfold Spot.long at ft; simp [Lit.wf, IntKind.min, IntKind.max, IntKind.signed, IntKind.bits]; omega)
  rw [e1] at HLOOK
  have hL : linksL a s = linksP (refsOf a s) := rfl
  rw [hL]
  rw [hL] at HC
  have hR : (refsOf a s) = (a.drop (s.loc.toNat + 1)).take s.r.toNat := rfl
  have HRS := Lib.hid hR
  clear hR hL hM e1 hs hok
  generalize refsOf a s = rs at *
  obtain ⟨loc, r, bb, t, fr⟩ := s
  simp only [Spot.long] at ft l0 r0 b0 ⊢
  obtain ⟨i, rfl⟩ := Int.eq_ofNat_of_zero_le l0
  obtain ⟨m, rfl⟩ := Int.eq_ofNat_of_zero_le r0
  simp only [Int.toNat_natCast] at hrl HRS
  rw [hal] at ft
  obtain ⟨p1, hp1⟩ : ∃ p1, p1 = i + 1 := ⟨_, rfl⟩
  obtain ⟨p2, hp2⟩ : ∃ p2, p2 = p1 + m := ⟨_, rfl⟩
  have w1 : IntKind.i64.wrap ((i : Int) + 1) = p1 := by rw [IntWalk.i64_in _ (by omega)]; omega
  have w2 : IntKind.i64.wrap ((p1 : Int) + m) = p2 := by rw [IntWalk.i64_in _ (by omega)]; omega
  have hlook2 : ∀ q, (Instr.lookup 51 (.map (some b)) (.int .i64 i) false).run Tryd.prog (w.drewN q) = .ok (.agg #[.int .i64 m, .int .i64 bb, .int .i64 t, .bool fr]) (w.drewN q) := fun q => HLOOK q
  have hfield := fun w => field_head m bb t fr w
  have hpos : 0 < n := by omega
  obtain ⟨ad, rfl, had, -⟩ := hr.2 hpos
  have k0 := hBh.cell 0
  have k1 := hBh.cell 1
  simp only [List.getElem?_toArray, List.getElem?_cons_zero, List.getElem?_cons_succ] at k0 k1
  have q1 : p1 ≤ p2 := by omega
  have q2 : p2 ≤ n := by omega
  have q3 : p2 ≤ c := by omega
  have q4 : p1 ≤ c := by omega
  have q5 : p2 - p1 = m := by omega
  have HC := Lib.hid HC
  have HIR := Lib.hid hIR
  have HID := Lib.hid hID
  have HLK := Lib.hid hlk
  have HRL := Lib.hid hrl
  have hcf := fun (x : Value) (w : World) => hP #[rv, x] w
  have HP1 := Lib.hid hp1
  have HAL := Lib.hid hal
  clear HLOOK hrl hlk hIR hID hp1 hp2 hP hal hBh
  by_cases hci : c = p1
  · have hci2 : (c == p1) = true := by simpa using hci
    have hm0 : m = 0 := by omega
    have hrs : rs = [] := List.eq_nil_of_length_eq_zero (by rw [HRL.out]; exact hm0)
    subst hrs
    have g0 : decide (0 < m) = false := decide_eq_false (by omega)
    have HI0 := Lib.hid hI
    clear hI hcf hm0
    go_enter Tryd.func19, Tryd.ntmps19
    go_wp2
    go_quiet (fail)
    go_wp2
    go_loopw [26] (fun i wr => i = .int .i64 0 ∧ wr = w.drewN nq) (fun _ _ => 0)
    case atStart => exact ⟨by first | rfl | simp, rfl⟩
    case round =>
      obtain ⟨rfl, rfl⟩ := hrel
      go_wp2
      go_end0
      exact ⟨rfl, HID.out _ _ _ HI0.out⟩
  · have HI0 := Lib.hid hI
    have HG : Hid (∀ (wr : World) (j : Nat), j < m → Reads wr B 1 (some ad) n (a.map (.int .u64)) → ∃ v, rs[j]? = some v ∧ 0 ≤ v ∧ wr.cell? ((ad.add p1).add j) = some (.int .u64 v)) := by
      intro wr j hj hrr
      have h1 := hrr.sub (lo := p1) (hi := p2) q1 q2 hnc
      rw [if_neg hci, q5] at h1
      have h2 : ((a.map (Value.int .u64)).drop p1).take m = rs.map (Value.int .u64) := by rw [HRS.out, List.map_take, List.map_drop, HP1.out]
      rw [h2] at h1
      obtain ⟨ad2, v, e2, -, hv, hc⟩ := h1.num hj
      simp only [Option.map_some, Option.some.injEq] at e2
      subst e2
      refine ⟨v, hv, ?_, hc⟩
      rcases HLK.out v (List.mem_of_getElem? hv) with h | h <;> omega
    clear hI
    go_enter Tryd.func19, Tryd.ntmps19
    go_wp2
    go_quiet (fail)
    go_wp2
    go_loopw [7, 26] (fun _ i wr => ∃ j : Nat, j ≤ m ∧ i = .int .i64 j ∧ Hid (Inv (linksP (rs.take j)) wr)) (fun _ i _ => m - (intOf i).toNat)
    case atStart => exact ⟨0, Nat.zero_le _, rfl, HID.out _ _ _ HI0.out⟩
    case round =>
      obtain ⟨j, hj, rfl, HI⟩ := hrel
      by_cases hlt : j < m
      · obtain ⟨v, hv, hv0, hc⟩ := HG.out wr j hlt (HIR.out _ _ HI.out)
        have hlk := HLK.out v (List.mem_of_getElem? hv)
        have hj1 : j + 1 ≤ m := hlt
        by_cases h0 : v = 0
        · subst h0
          have HI2 : Hid (Inv (linksP (rs.take (j + 1))) wr) := by
            show Inv _ _
            rw [linksP_zero hv]
            exact HI.out
          clear hv HI
          go_wp2
          go_roundw
          case rel => exact ⟨j + 1, hj1, by go_num, HI2⟩
          case measure => simp [intOf]; omega
        · obtain ⟨y, hy⟩ : ∃ y : Nat, v = ((y + 1 : Nat) : Int) := ⟨(v - 1).toNat, by omega⟩
          have hyl : ((y : Nat) : Int) ∈ linksP rs := List.mem_map.2 ⟨v, List.mem_filter.2 ⟨List.mem_of_getElem? hv, by simpa using h0⟩, by omega⟩
          have HQ := HC.out (linksP (rs.take j)) y wr HI.out hyl
          have hst := linksP_succ hv h0
          rw [show v - 1 = ((y : Nat) : Int) by omega] at hst
          rw [← hst] at HQ
          have HQ := Lib.hid HQ
          obtain ⟨V, hV⟩ : ∃ V : Nat, V = y + 1 := ⟨_, rfl⟩
          rw [← hV] at hy
          subst hy
          have z1 : ((V : Int) != 0) = true := by simp; omega
          have z2 : (V != 0) = true := by simp; omega
          have z3 : ¬ V = 0 := by omega
          have w3 : IntKind.i64.wrap (V : Int) = V := IntWalk.i64_in _ (by omega)
          have w4 : IntKind.i64.wrap ((V : Int) - 1) = y := by rw [IntWalk.i64_in _ (by omega)]; omega
          have w5 : (V : Int) - 1 = y := by omega
          have w6 : IntKind.i64.wrap (y : Int) = y := IntWalk.i64_in _ (by omega)
          clear hv HI hyl hst hV hlk
          go_wp2_with fail
          refine HQ.out.mono ?_
          rintro e w9 ⟨rfl, hI9⟩
          have HI9 := Lib.hid hI9
          go_wp2
          go_roundw
          case rel => exact ⟨j + 1, hj1, by go_num, HI9⟩
          case measure => simp [intOf]; omega
      · have hjm : j = m := by omega
        have HI2 : Hid (Inv (linksP rs) wr) := by
          have := HI.out
          rw [hjm, List.take_of_length_le (by rw [HRL.out]; exact Nat.le_refl _)] at this
          exact this
        have g0 : decide (j < m) = false := decide_eq_false hlt
        clear hjm HI
        go_wp2
        go_end0
        exact ⟨rfl, HI2.out⟩
end Go.Proofs.YtbmkbnalembbjaaDoor
