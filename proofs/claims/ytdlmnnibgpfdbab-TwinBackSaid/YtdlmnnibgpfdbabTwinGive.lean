/-
  package twin: Give, where a room starts at the place.
-/
import Derived.Test.YtdlmnnibgpfdbabTwinTakeLaw
import Derived.Test.YtdlmnnibgpfdbabTwinCheck
import Derived.Test.YtdlmnnibgpfdbabSlicesRoom
import Derived.Test.YtdlmnnibgpfdbabDeleteRoom
namespace Go.Proofs.Ytdlmnnibgpfdbab
open Go.RowKit

set_option maxHeartbeats 400000 in
theorem giveAt_any (a : Int) (r : Rm) (g : Nat) (w : World) (b1 : g < w.heap.size) (c1 : w.cell? ⟨g, 0, none⟩ = some (.int .i64 a)) :
    Calls Try.prog 35 #[.agg #[.int .i64 r.loc, .int .i64 r.len, .int .i64 r.used], .pointer (some ⟨g, 0, none⟩)] w fun e w' => e = .returned (.bool (r.loc == a)) ∧ Below w.heap.size w w' := by
  obtain ⟨x, y, z⟩ := r
  dsimp only at *
  have hb := below_new w (.cells #[.int .i64 x, .int .i64 y, .int .i64 z] 33)
  have d1 : ∀ o, (w.alloc o).cell? ⟨g, 0, none⟩ = some (.int .i64 a) := fun o => by rw [World.cell?_alloc_lt _ _ _ (by exact b1)]; exact c1
  clear c1
  go_enter Try.func35, Try.ntmps35
  go_wp2
  go_ret
  exact ⟨rfl, hb⟩

set_option maxRecDepth 100000 in
set_option maxHeartbeats 1000000 in
theorem give_ok (K : Nat) (A : Option Addr) (n c : Nat) (l : List Rm) (a : Int) (i : Nat) (w : World) (hr : Reads w w.heap.size 3 A n (roomsC l)) (hK : K ≤ 8) (hC : Chain K 0 l) (hi : ixOf (fun r => r.loc == a) l = (i : Int)) (hin : i < n) :
    Calls Try.prog 16 #[.agg #[.int .i64 K, .slice A n c], .int .i64 a] w fun e w' => ∃ A' c', e = .returned (.tuple #[.agg #[.int .i64 K, .slice A' (n - 1) c'], .int .i64 0]) ∧
      w'.ownsRow w.heap.size 33 3 (.slice A' (n - 1) c') (n - 1) (roomsC (l.take i ++ l.drop (i + 1))) ∧ Below w.heap.size w w' := by
  have hE : twinE K l = 0 := twinE_iff.2 ⟨K, hK, rfl, hC⟩
  have hlen := hC.len (Nat.zero_le _)
  have hll : l.length = n := by have := hr.1; rw [roomsC_length] at this; omega
  have h256 : 2 ^ K ≤ 256 := Nat.pow_le_pow_right (by decide) hK
  have hn : n ≤ 256 := by omega
  have hb0 := ((below_new w (.cells #[.int .i64 K, .slice A n c] 24)).alloc (by simp) (.cells #[.int .i64 a] 3)).alloc (by simp; omega) (.cells #[.int .i64 0, .slice none 0 0] 24)
  have B0 := ((Blk.new w 24 #[.int .i64 K, .slice A n c]).alloc (.cells #[.int .i64 a] 3)).alloc (.cells #[.int .i64 0, .slice none 0 0] 24)
  have B1 := (Blk.new (w.alloc (.cells #[.int .i64 K, .slice A n c] 24)) 3 #[.int .i64 a]).alloc (.cells #[.int .i64 0, .slice none 0 0] 24)
  have B2 := Blk.new ((w.alloc (.cells #[.int .i64 K, .slice A n c] 24)).alloc (.cells #[.int .i64 a] 3)) 24 #[.int .i64 0, .slice none 0 0]
  simp only [World.size_alloc] at B1 B2
  have H1 := Lib.hid (fun w hr => twinCheck_any K A n c l w hr (by omega))
  rw [hE] at H1
  have HI := Lib.hid (fun W hr hP HC => indexRoom_any 35 (.pointer (some ⟨w.heap.size + 1, 0, none⟩)) A n c _ l (fun r => r.loc == a) W hr (Nat.le_refl _) (by omega) hP HC)
  have HCl := Lib.hid (fun w hr => clone_room A n c _ (roomsC l) w hr (Nat.le_refl _) (roomsC_one l) (by omega))
  obtain ⟨n1, hn1⟩ : ∃ n1, n1 = n - 1 := ⟨_, rfl⟩
  obtain ⟨i1, hi1⟩ : ∃ i1, i1 = i + 1 := ⟨_, rfl⟩
  have HDel := Lib.hid (fun base A' c' W hown => delete_room base A' n c' i (roomsC l) W hown hin (by omega) (roomsC_one l))
  rw [roomsC_del, ← hn1, ← hi1] at HDel
  rw [← hn1, ← hi1]
  have w1 : IntKind.i64.wrap ((i : Int) + 1) = (i1 : Int) := by rw [IntWalk.i64_in _ (by omega)]; omega
  rw [hi] at HI
  have hil : i < n := hin
  clear hE hC hlen hll h256 hK hi hi1 hn1 hin
  go_enter Try.func16, Try.ntmps16
  go_wp2_with fail
  refine (H1.out _ ((hr.below hb0).more hb0.size)).mono ?_
  rintro e w1 ⟨rfl, hb1⟩
  have B0 := B0.below hb1 B0.lt
  have B1 := B1.below hb1 B1.lt
  have B2 := B2.below hb1 B2.lt
  have hb01 := below_step hb0 hb1
  have k0 := B0.cell 0
  have k1 := B0.cell 1
  simp only [List.getElem?_toArray, List.getElem?_cons_zero, List.getElem?_cons_succ] at k0 k1
  clear hb0 hb1 H1
  go_wp2_with fail
  refine (HI.out _ ((hr.below hb01).more hb01.size) (plain_of (fn := Try.f35) Try.func35 (by kernel_rfl) (by kernel_rfl)) (fun w' s hb' _ => giveAt_any a s _ w' (by have := hb'.size; have := B1.lt; omega) ((B1.below hb' B1.lt).cell 0))).mono ?_
  rintro e w2 ⟨rfl, hb2⟩
  have B0 := B0.below hb2 B0.lt
  have B1 := B1.below hb2 B1.lt
  have B2 := B2.below hb2 B2.lt
  have hb02 := below_step hb01 hb2
  have s2 : w.heap.size + 1 + 1 < w2.heap.size := B2.lt
  clear k0 k1
  have k0 := B0.cell 0
  have k1 := B0.cell 1
  simp only [List.getElem?_toArray, List.getElem?_cons_zero, List.getElem?_cons_succ] at k0 k1
  clear hb01 hb2 HI
  go_wp2_with fail
  refine (HCl.out _ ((hr.below hb02).more hb02.size)).mono ?_
  rintro e w3 ⟨AC, cC, rfl, hownC, hb3⟩
  have B0 := B0.below hb3 B0.lt
  have B1 := B1.below hb3 B1.lt
  have B2 := B2.below hb3 B2.lt
  have hb03 := below_step hb02 hb3
  clear k0 k1 hb3
  have k0 := B0.cell 0
  have k1 := B0.cell 1
  simp only [List.getElem?_toArray, List.getElem?_cons_zero, List.getElem?_cons_succ] at k0 k1
  go_wp2_with fail
  refine (HDel.out _ _ _ _ hownC).mono ?_
  rintro e w4 ⟨AD, cD, rfl, hownD, hb4⟩
  have B0 := B0.below hb4 (by omega)
  have B2 := B2.below hb4 (by omega)
  have hb04 := hb03.trans (hb4.mono hb02.size)
  clear k0 k1 hb4 hb03 hownC B1
  have E0 : Blk (w4.setCell ⟨w.heap.size, 1, none⟩ (.slice AD n1 cD)) w.heap.size 24 #[.int .i64 K, .slice AD n1 cD] := by simpa using B0.set_ 1 (.slice AD n1 cD)
  have f9 := B0.frozen 1
  have q9 := B0.cell 1
  have B2 := B2.far (p := ⟨w.heap.size, 1, none⟩) (by dsimp only; omega) (.slice AD n1 cD)
  have hbz := hb04.setCell (p := ⟨w.heap.size, 1, none⟩) (Nat.le_refl _) (.slice AD n1 cD)
  have hown := own_apart hownD (p := ⟨w.heap.size, 1, none⟩) (own_blk_ne hownD B0 (by decide)) (.slice AD n1 cD)
  have c0 := E0.cell 0
  have c1 := E0.cell 1
  have k0 := B2.cell 0
  have k1 := B2.cell 1
  have f0 := B2.frozen 0
  have f1 := B2.frozen 1
  simp only [List.getElem?_toArray, List.getElem?_cons_zero, List.getElem?_cons_succ] at k0 k1 c0 c1 q9
  have hne := fun (p : Addr) (hp : p.block < w2.heap.size) (h : (Value.slice AD n1 cD).ownBlock = some p.block) => Nat.lt_irrefl p.block (Nat.lt_of_lt_of_le hp (hown.lt _ h).1)
  have HO := Lib.hid (own_mono (own_apart (own_apart hown (p := ⟨w.heap.size + 1 + 1, 0, none⟩) (hne _ s2) (.int .i64 K)) (p := ⟨w.heap.size + 1 + 1, 1, none⟩) (hne _ s2) (.slice AD n1 cD)) (by omega : w.heap.size ≤ w2.heap.size))
  generalize hG : w4.setCell ⟨w.heap.size, 1, none⟩ (.slice AD n1 cD) = wJ at *
  clear hne hown hownD
  go_wp2
  refine bodyPost_ret (v := .tuple #[.agg #[.int .i64 K, .slice AD n1 cD], .int .i64 0]) ?_ rfl ⟨AD, cD, rfl, HO.out, ?_⟩
  · simp only [results, Try.results16]
    go_simp
  · iterate 2 refine Below.setCell ?_ (by dsimp only; omega) _
    exact hbz
end Go.Proofs.Ytdlmnnibgpfdbab
