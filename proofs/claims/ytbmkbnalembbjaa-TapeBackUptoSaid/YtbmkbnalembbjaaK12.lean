/-
  Texts joined: TapeStore TapesTrue EqualOp StCopied Slices SlicesInt SameSt LawOps LawOpsW TwinDefs LawHalves LawPins LawNums.
-/
import Derived.Deep.RegionHeld3
import Derived.Test.YtbmkbnalembbjaaRows
import Derived.Lib.SmallJoins
import Derived.SizedLaws
import Derived.Test.YtbmkbnalembbjaaK0
import Derived.Test.YtbmkbnalembbjaaK1
import Derived.Test.YtbmkbnalembbjaaK2
import Derived.Test.YtbmkbnalembbjaaK3
import Derived.Test.YtbmkbnalembbjaaK4
import Derived.Test.YtbmkbnalembbjaaK9
import Derived.Test.YtbmkbnalembbjaaK10
import Derived.Test.YtbmkbnalembbjaaK11
namespace Go.Proofs.Ytbmkbnalembbjaa
open Go.RowKit
theorem StOk.bounds {S : St} (h : StOk S) : S.a.length ≤ 256 ∧ S.r.length ≤ 32 ∧ S.p.length ≤ 16 ∧ S.l.length ≤ 16 ∧ (∀ v ∈ S.r, -1 ≤ v ∧ v < 256) ∧ (∀ x ∈ S.p, 0 ≤ x.loc ∧ x.loc < 256 ∧ 1 ≤ x.len ∧ x.len ≤ 1000000) ∧ (∀ s ∈ S.l, 0 ≤ s.gen ∧ s.gen ≤ 65535 ∧ 0 ≤ s.loc ∧ s.loc < 256) := by
  obtain ⟨r0, r1, r2, r3⟩ := rootE_ok h.roots
  obtain ⟨h1, h2⟩ := handE_ok.1 h.hands
  refine ⟨by omega, r2, h.pins.len, h1, fun v hv => ⟨(r3 v hv).1, by have := (r3 v hv).2; omega⟩, fun x hx => ?_, fun s hs => ?_⟩
  · have := h.pins.ok x hx
    unfold pinBad at this
    simp only [Bool.or_eq_false_iff, Bool.not_eq_false', Bool.and_eq_true, decide_eq_true_eq, decide_eq_false_iff_not] at this
    omega
  · have := h2 s hs
    unfold slotE at this
    split at this
    · cases this
    · omega
theorem StOk.told {S : St} (h : StOk S) (ha : ∀ x ∈ S.a, (Lit.int .u64 x).wf = true) : StW S := by
  obtain ⟨-, -, -, -, h5, h6, h7⟩ := h.bounds
  refine ⟨fun x hx => ?_, fun v hv => ?_, fun x hx => ?_, fun s hs => ?_⟩
  · have := ha x hx
    simp [Lit.wf, IntKind.min, IntKind.max, IntKind.signed, IntKind.bits] at this
    omega
  · have := h5 v hv
    omega
  · have := h6 x hx
    unfold i64R
    omega
  · have := h7 s hs
    unfold i64R
    omega
theorem gA_lt' (l : List Int) : ∀ n ∈ l.flatMap gA, n < 2 ^ 64 := fun n hn => by
  obtain ⟨x, _, h⟩ := List.mem_flatMap.1 hn
  rw [List.mem_singleton.1 h]
  exact u64N_lt _
theorem gR_lt' (l : List Int) : ∀ n ∈ l.flatMap gR, n < 2 ^ 64 := fun n hn => by
  obtain ⟨x, _, h⟩ := List.mem_flatMap.1 hn
  rw [List.mem_singleton.1 h]
  exact u64N_lt _
theorem gP_lt' (l : List Rn) : ∀ n ∈ l.flatMap gP, n < 2 ^ 64 := fun n hn => by
  obtain ⟨x, _, h⟩ := List.mem_flatMap.1 hn
  simp only [gP, List.mem_cons, List.not_mem_nil, or_false] at h
  rcases h with rfl | rfl <;> exact u64N_lt _
theorem gH_lt' (l : List Slot) : ∀ n ∈ l.flatMap gH, n < 2 ^ 64 := fun n hn => by
  obtain ⟨x, _, h⟩ := List.mem_flatMap.1 hn
  simp only [gH, List.mem_cons, List.not_mem_nil, or_false] at h
  rcases h with rfl | rfl | rfl
  · exact u64N_lt _
  · split <;> decide
  · exact u64N_lt _
theorem bytes_short {w : World} {base k c m : Nat} {A : Option Addr} {ns : List Nat} (h : w.ownsRow base 5 1 (.slice A k c) k (byteN (encN ns))) (hn : ∀ n ∈ ns, n < 2 ^ 64) (hm : ns.length ≤ m) : k ≤ 10 * m := by
  have h1 := h.1
  rw [byteN_length] at h1
  have h2 := encN_ten ns hn
  omega
theorem flatN {α : Type} (g : α → List Nat) (k : Nat) (h : ∀ x, (g x).length = k) (l : List α) : (l.flatMap g).length = l.length * k := by
  induction l with
  | nil => simp
  | cons x l ih => simp only [List.flatMap_cons, List.length_append, List.length_cons]; rw [ih, h, Nat.add_mul]; omega
theorem take_flat {α : Type} (g : α → List Nat) {l : List α} {j : Nat} {x : α} (h : l[j]? = some x) : (l.take (j + 1)).flatMap g = (l.take j).flatMap g ++ g x := by
  obtain ⟨hl, rfl⟩ := List.getElem?_eq_some_iff.1 h
  rw [List.take_succ_eq_append_getElem hl, List.flatMap_append, List.flatMap_singleton]
set_option maxRecDepth 100000 in
set_option maxHeartbeats 1000000 in
theorem tapeStore_bad (A : Option Addr) (n c : Nat) (RA : Option Addr) (rn rc : Nat) (PA : Option Addr) (pn pc : Nat) (HA : Option Addr) (hn hc : Nat) (S : St) (w : World)
    (hR : StR w w.heap.size A n RA rn PA pn HA hn S) (hK : StK n c rn pn hn S) (hE : stE S ≠ 0) :
    Calls Try.prog 10 #[.agg #[.slice A n c, .slice RA rn rc, .slice PA pn pc, .slice HA hn hc]] w fun e w' => Below w.heap.size w w' ∧ e = .returned (.tuple #[.string ⟨#[]⟩, .int .i64 (stE S)]) := by
  have HCk := Lib.hid (fun w hR => stcheck_any A n c RA rn rc PA pn pc HA hn hc S w hR hK)
  have hE1 : (stE S != 0) = true := by simpa using hE
  generalize stE S = E at *
  have hb0 := below_new w (.cells #[.slice A n c, .slice RA rn rc, .slice PA pn pc, .slice HA hn hc] 29)
  have DS := Blk.new w 29 #[.slice A n c, .slice RA rn rc, .slice PA pn pc, .slice HA hn hc]
  obtain ⟨s0, s1, s2, s3⟩ := DS.four
  clear hE
  go_enter Try.func10, Try.ntmps10
  go_wp2_with fail
  refine (HCk.out _ ((hR.below hb0).more hb0.size)).mono ?_
  rintro e w2 ⟨rfl, hb2⟩
  go_wp2_with fail
  go_ret2
  exact ⟨below_step hb0 hb2, rfl⟩
set_option maxRecDepth 100000 in
set_option maxHeartbeats 8000000 in
theorem tapeStore_ok (A : Option Addr) (n c : Nat) (RA : Option Addr) (rn rc : Nat) (PA : Option Addr) (pn pc : Nat) (HA : Option Addr) (hn hc : Nat) (S : St) (w : World)
    (hR : StR w w.heap.size A n RA rn PA pn HA hn S) (hK : StK n c rn pn hn S) (hE : stE S = 0) :
    Calls Try.prog 10 #[.agg #[.slice A n c, .slice RA rn rc, .slice PA pn pc, .slice HA hn hc]] w fun e w' => Below w.heap.size w w' ∧ ∃ s : ByteArray, e = .returned (.tuple #[.string s, .int .i64 0]) ∧ bytesN s = encN (stN S) := by
  have HCk := Lib.hid (fun w hR => stcheck_any A n c RA rn rc PA pn pc HA hn hc S w hR hK)
  rw [hE] at HCk
  have HP := Lib.hid (fun base A k c L n w => @put_any base A k c L n w)
  have hok := stE_ok.1 hE
  obtain ⟨b1, b2, b3, b4, b5, b6, b7⟩ := hok.bounds
  have HW := Lib.hid (hok.told hK.wf)
  obtain ⟨q1, q2, q3, q4⟩ := hR.lens
  have HL := Lib.hid hR.lens
  rw [q1] at b1
  rw [q2] at b2
  rw [q3] at b3
  rw [q4] at b4
  have HB := Lib.hid (And.intro b5 (And.intro b6 b7))
  have hb0 := below_new w (.cells #[.slice A n c, .slice RA rn rc, .slice PA pn pc, .slice HA hn hc] 29)
  have DS := Blk.new w 29 #[.slice A n c, .slice RA rn rc, .slice PA pn pc, .slice HA hn hc]
  obtain ⟨s0, s1, s2, s3⟩ := DS.four
  have HS4 : Hid (encN (stN S) = encN [n, rn, pn, hn] ++ encN (S.a.flatMap gA) ++ encN (S.r.flatMap gR) ++ encN (S.p.flatMap gP) ++ encN (S.l.flatMap gH)) := by
    show _ = _
    unfold stN bodyN
    rw [q1, q2, q3, q4, show n :: rn :: pn :: hn :: (S.a.flatMap gA ++ (S.r.flatMap gR ++ (S.p.flatMap gP ++ S.l.flatMap gH))) = [n, rn, pn, hn] ++ (S.a.flatMap gA ++ (S.r.flatMap gR ++ (S.p.flatMap gP ++ S.l.flatMap gH))) from rfl]
    simp only [encN_append, List.append_assoc]
  clear hE hok b5 b6 b7 q1 q2 q3 q4
  go_enter Try.func10, Try.ntmps10
  go_wp2_with fail
  refine (HCk.out _ ((hR.below hb0).more hb0.size)).mono ?_
  rintro e w2 ⟨rfl, hb2⟩
  have hb02 := below_step hb0 hb2
  have DS := DS.below hb2 DS.lt
  obtain ⟨s0, s1, s2, s3⟩ := DS.four
  have hlt2 : w.heap.size < w2.heap.size := DS.lt
  have HDS := Lib.hid DS
  have HRa := Lib.hid hR
  clear HCk hb0 DS hb2 hR
  go_wp2_with fail
  go_loopw [5, 35] (fun o i wr => ∃ (j : Nat) (A' : Option Addr) (k c' : Nat), j ≤ 4 ∧ i = .int .i64 j ∧ o = .slice A' k c' ∧ wr.ownsRow w2.heap.size 5 1 (.slice A' k c') k (byteN (encN ([n, rn, pn, hn].take j))) ∧ Below w2.heap.size w2 wr) (fun _ i _ => 4 - (intOf i).toNat)
  case atStart => exact ⟨0, none, 0, 0, Nat.zero_le _, rfl, rfl, World.ownsRow_nil _ _ _ _, Below.refl _ _⟩
  case round =>
    obtain ⟨j, A', k, c', hj, rfl, rfl, hown, hb⟩ := hrel
    by_cases hlt : j < 4
    · obtain ⟨m, hm⟩ : ∃ m, [n, rn, pn, hn][j]? = some m := ⟨_, List.getElem?_eq_getElem (by simpa using hlt)⟩
      have hm256 : m ≤ 256 := by
        have := List.mem_of_getElem? hm
        simp only [List.mem_cons, List.not_mem_nil, or_false] at this
        omega
      have hX : (Instr.index 83 (.agg #[.int .i64 n, .int .i64 rn, .int .i64 pn, .int .i64 hn]) (.int .i64 j)).run Try.prog wr = .ok (.int .i64 m) wr := by
        rw [idxU .i64 4 83 3 Try.underlying83 Try.underlying3 (size_ofN (by kernel_rfl)) #[.int .i64 n, .int .i64 rn, .int .i64 pn, .int .i64 hn] j hlt rfl wr]
        congr 1
        have : j = 0 ∨ j = 1 ∨ j = 2 ∨ j = 3 := by omega
        rcases this with rfl | rfl | rfl | rfl <;> (simp at hm; subst hm; rfl)
      have hmw : IntKind.u64.wrap (m : Int) = (m : Int) := by rw [IntKind.wrap_u64]; omega
      have HQ : Hid (encN ([n, rn, pn, hn].take (j + 1)) = encN ([n, rn, pn, hn].take j) ++ varN m) := by
        obtain ⟨hl, rfl⟩ := List.getElem?_eq_some_iff.1 hm
        exact encN_take hl
      have hk : k ≤ 40 := by
        refine bytes_short (m := 4) hown (fun x hx => ?_) (by rw [List.length_take]; omega)
        have := List.mem_of_mem_take hx
        simp only [List.mem_cons, List.not_mem_nil, or_false] at this
        omega
      clear hm
      have HPut := Lib.hid (HP.out w2.heap.size A' k c' _ m wr hown hb.size (by omega) (by omega))
      go_wp2_with fail
      refine HPut.out.mono ?_
      rintro e w4 ⟨A3, k3, c3, rfl, hown4, hgr, -⟩
      have hb4 : Below w2.heap.size w2 w4 := hb.grown hgr hb.size (fun g hg => (hown.lt g hg).1)
      rw [← HQ.out] at hown4
      go_wp2_with fail
      go_roundw
      case rel => exact ⟨j + 1, A3, k3, c3, by omega, by go_num, rfl, hown4, hb4⟩
      case measure => simp [intOf]; omega
    · obtain rfl : j = 4 := by omega
      rw [show ((4 : Nat) : Int) = 4 from rfl]
      rw [show [n, rn, pn, hn].take 4 = [n, rn, pn, hn] from rfl] at hown
      obtain ⟨wa, hwa⟩ : ∃ x, x = wr := ⟨wr, rfl⟩
      subst hwa
      have hba := hb
      obtain ⟨s0, s1, s2, s3⟩ := (HDS.out.below hba HDS.out.lt).four
      have HX : Hid (∀ x ∈ [n, rn, pn, hn], x < 2 ^ 64) := by
        intro x hx
        simp only [List.mem_cons, List.not_mem_nil, or_false] at hx
        omega
      have HXl : Hid ([n, rn, pn, hn].length ≤ 4) := by
        show _ ≤ _
        have h0 := HL.out
        have h1 : (S.a.flatMap gA).length = S.a.length * 1 := flatN gA 1 (fun _ => rfl) _
        have h2 : (S.r.flatMap gR).length = S.r.length * 1 := flatN gR 1 (fun _ => rfl) _
        have h3 : (S.p.flatMap gP).length = S.p.length * 2 := flatN gP 2 (fun _ => rfl) _
        simp only [List.length_append, List.length_cons, List.length_nil]
        omega
      go_wp2_with fail
      go_loopw [5, 46] (fun o i wr => ∃ (j : Nat) (A' : Option Addr) (k c' : Nat), j ≤ n ∧ i = .int .i64 j ∧ o = .slice A' k c' ∧ wr.ownsRow w2.heap.size 5 1 (.slice A' k c') k (byteN (encN ([n, rn, pn, hn] ++ (S.a.take j).flatMap gA))) ∧ Below w2.heap.size w2 wr) (fun _ i _ => n - (intOf i).toNat)
      case atStart => exact ⟨0, A', k, c', Nat.zero_le _, rfl, rfl, by simpa using hown, hba⟩
      case round =>
        obtain ⟨j, A', k, c', hj, rfl, rfl, hown, hb⟩ := hrel
        by_cases hlt : j < n
        · obtain ⟨ad, x, rfl, had, hx, cx⟩ := ((HRa.out.a.below hb02).below (hb.mono (by omega))).num hlt
          have hx64 := HW.out.a x (List.mem_of_getElem? hx)
          have hxu := u64N_id hx64
          have HQ := Lib.hid (take_flat gA hx)
          obtain ⟨m, hm⟩ : ∃ m, u64N x = m := ⟨_, rfl⟩
          have hm64 : m < 2 ^ 64 := by rw [← hm]; exact u64N_lt x
          rw [hm] at hxu
          have HM : Hid (gA x = [m]) := by show _ = _; unfold gA; rw [hm]
          rw [← hxu] at cx
          have hk : k ≤ 2600 := by
            refine bytes_short (m := 260) hown (fun x hx => ?_) ?_
            · rcases List.mem_append.1 hx with hx | hx
              · exact HX.out x hx
              · exact gA_lt' _ x hx
            · have h1 := HXl.out
              have h2 : ((S.a.take j).flatMap gA).length = (S.a.take j).length * 1 := flatN gA 1 (fun _ => rfl) _
              have h3 : (S.a.take j).length ≤ 256 := by rw [List.length_take]; omega
              rw [List.length_append]
              omega
          clear hx hx64 hxu hm
          have HPut := Lib.hid (HP.out w2.heap.size A' k c' _ m wr hown hb.size (by omega) hm64)
          go_wp2_with fail
          refine HPut.out.mono ?_
          rintro e w4 ⟨A3, k3, c3, rfl, hown4, hgr, -⟩
          have hb4 : Below w2.heap.size w2 w4 := hb.grown hgr hb.size (fun g hg => (hown.lt g hg).1)
          rw [← encN_one, ← encN_append, List.append_assoc, ← HM.out, ← HQ.out] at hown4
          go_wp2_with fail
          go_roundw
          case rel => exact ⟨j + 1, A3, k3, c3, by omega, by go_num, rfl, hown4, hb4⟩
          case measure => simp [intOf]; omega
        · obtain rfl : n = j := by omega
          rw [List.take_of_length_le (by have := HL.out; omega)] at hown
          obtain ⟨wa, hwa⟩ : ∃ x, x = wr := ⟨wr, rfl⟩
          subst hwa
          have hba := hb
          obtain ⟨s0, s1, s2, s3⟩ := (HDS.out.below hba HDS.out.lt).four
          have HX : Hid (∀ x ∈ ([n, rn, pn, hn] ++ S.a.flatMap gA), x < 2 ^ 64) := by
            intro x hx
            rcases List.mem_append.1 hx with hx | hx
            · exact HX.out x hx
            · exact gA_lt' _ x hx
          have HXl : Hid (([n, rn, pn, hn] ++ S.a.flatMap gA).length ≤ 260) := by
            show _ ≤ _
            have h0 := HL.out
            have h1 : (S.a.flatMap gA).length = S.a.length * 1 := flatN gA 1 (fun _ => rfl) _
            have h2 : (S.r.flatMap gR).length = S.r.length * 1 := flatN gR 1 (fun _ => rfl) _
            have h3 : (S.p.flatMap gP).length = S.p.length * 2 := flatN gP 2 (fun _ => rfl) _
            simp only [List.length_append, List.length_cons, List.length_nil]
            omega
          go_wp2_with fail
          go_loopw [5, 57] (fun o i wr => ∃ (j : Nat) (A' : Option Addr) (k c' : Nat), j ≤ rn ∧ i = .int .i64 j ∧ o = .slice A' k c' ∧ wr.ownsRow w2.heap.size 5 1 (.slice A' k c') k (byteN (encN (([n, rn, pn, hn] ++ S.a.flatMap gA) ++ (S.r.take j).flatMap gR))) ∧ Below w2.heap.size w2 wr) (fun _ i _ => rn - (intOf i).toNat)
          case atStart => exact ⟨0, A', k, c', Nat.zero_le _, rfl, rfl, by simpa using hown, hba⟩
          case round =>
            obtain ⟨j, A', k, c', hj, rfl, rfl, hown, hb⟩ := hrel
            by_cases hlt : j < rn
            · obtain ⟨ad, x, rfl, had, hx, cx⟩ := ((HRa.out.r.below hb02).below (hb.mono (by omega))).num hlt
              have hxb := HB.out.1 x (List.mem_of_getElem? hx)
              have HQ := Lib.hid (take_flat gR hx)
              obtain ⟨m, hm⟩ : ∃ m : Nat, x + 1 = (m : Int) := Int.eq_ofNat_of_zero_le (by omega)
              have hm256 : m ≤ 256 := by omega
              have HM : Hid (gR x = [m]) := by
                show _ = _
                unfold gR
                rw [IntWalk.wrap64_in _ (by omega), hm, u64N_nat (by omega)]
              have hmw : IntKind.u64.wrap (m : Int) = (m : Int) := by rw [IntKind.wrap_u64]; omega
              have hk : k ≤ 2920 := by
                refine bytes_short (m := 292) hown (fun x hx => ?_) ?_
                · rcases List.mem_append.1 hx with hx | hx
                  · exact HX.out x hx
                  · exact gR_lt' _ x hx
                · have h1 := HXl.out
                  have h2 : ((S.r.take j).flatMap gR).length = (S.r.take j).length * 1 := flatN gR 1 (fun _ => rfl) _
                  have h3 : (S.r.take j).length ≤ 32 := by rw [List.length_take]; omega
                  rw [List.length_append]
                  omega
              clear hx
              have HPut := Lib.hid (HP.out w2.heap.size A' k c' _ m wr hown hb.size (by omega) (by omega))
              go_wp2_with fail
              refine HPut.out.mono ?_
              rintro e w4 ⟨A3, k3, c3, rfl, hown4, hgr, -⟩
              have hb4 : Below w2.heap.size w2 w4 := hb.grown hgr hb.size (fun g hg => (hown.lt g hg).1)
              rw [← encN_one, ← encN_append, List.append_assoc, ← HM.out, ← HQ.out] at hown4
              go_wp2_with fail
              go_roundw
              case rel => exact ⟨j + 1, A3, k3, c3, by omega, by go_num, rfl, hown4, hb4⟩
              case measure => simp [intOf]; omega
            · obtain rfl : rn = j := by omega
              rw [List.take_of_length_le (by have := HL.out; omega)] at hown
              obtain ⟨wa, hwa⟩ : ∃ x, x = wr := ⟨wr, rfl⟩
              subst hwa
              have hba := hb
              obtain ⟨s0, s1, s2, s3⟩ := (HDS.out.below hba HDS.out.lt).four
              have HX : Hid (∀ x ∈ (([n, rn, pn, hn] ++ S.a.flatMap gA) ++ S.r.flatMap gR), x < 2 ^ 64) := by
                intro x hx
                rcases List.mem_append.1 hx with hx | hx
                · exact HX.out x hx
                · exact gR_lt' _ x hx
              have HXl : Hid ((([n, rn, pn, hn] ++ S.a.flatMap gA) ++ S.r.flatMap gR).length ≤ 292) := by
                show _ ≤ _
                have h0 := HL.out
                have h1 : (S.a.flatMap gA).length = S.a.length * 1 := flatN gA 1 (fun _ => rfl) _
                have h2 : (S.r.flatMap gR).length = S.r.length * 1 := flatN gR 1 (fun _ => rfl) _
                have h3 : (S.p.flatMap gP).length = S.p.length * 2 := flatN gP 2 (fun _ => rfl) _
                simp only [List.length_append, List.length_cons, List.length_nil]
                omega
              go_wp2_with fail
              go_loopw [5, 70] (fun o i wr => ∃ (j : Nat) (A' : Option Addr) (k c' : Nat), j ≤ pn ∧ i = .int .i64 j ∧ o = .slice A' k c' ∧ wr.ownsRow w2.heap.size 5 1 (.slice A' k c') k (byteN (encN ((([n, rn, pn, hn] ++ S.a.flatMap gA) ++ S.r.flatMap gR) ++ (S.p.take j).flatMap gP))) ∧ Below w2.heap.size w2 wr) (fun _ i _ => pn - (intOf i).toNat)
              case atStart => exact ⟨0, A', k, c', Nat.zero_le _, rfl, rfl, by simpa using hown, hba⟩
              case round =>
                obtain ⟨j, A', k, c', hj, rfl, rfl, hown, hb⟩ := hrel
                by_cases hlt : j < pn
                · obtain ⟨ad, x, rfl, had, hx, cx0, cx1⟩ := ((HRa.out.p.below hb02).below (hb.mono (by omega))).run hlt
                  have hxb := HB.out.2.1 x (List.mem_of_getElem? hx)
                  have HQ := Lib.hid (take_flat gP hx)
                  obtain ⟨xl, xn⟩ := x
                  dsimp only at cx0 cx1 hxb
                  obtain ⟨a, rfl⟩ := Int.eq_ofNat_of_zero_le (a := xl) (by omega)
                  obtain ⟨b, rfl⟩ := Int.eq_ofNat_of_zero_le (a := xn) (by omega)
                  have HM : Hid (gP ⟨(a : Int), (b : Int)⟩ = [a, b]) := by show _ = _; unfold gP; dsimp only; rw [u64N_nat (by omega), u64N_nat (by omega)]
                  have haw : IntKind.u64.wrap (a : Int) = (a : Int) := by rw [IntKind.wrap_u64]; omega
                  have hbw : IntKind.u64.wrap (b : Int) = (b : Int) := by rw [IntKind.wrap_u64]; omega
                  have hk : k ≤ 3240 := by
                    refine bytes_short (m := 324) hown (fun x hx => ?_) ?_
                    · rcases List.mem_append.1 hx with hx | hx
                      · exact HX.out x hx
                      · exact gP_lt' _ x hx
                    · have h1 := HXl.out
                      have h2 : ((S.p.take j).flatMap gP).length = (S.p.take j).length * 2 := flatN gP 2 (fun _ => rfl) _
                      have h3 : (S.p.take j).length ≤ 16 := by rw [List.length_take]; omega
                      rw [List.length_append]
                      omega
                  have DP := Blk.new wr 47 #[.int .i64 a, .int .i64 b]
                  have hownP := hown.alloc (.cells #[.int .i64 a, .int .i64 b] 47)
                  have hbP := hb.alloc hb.size (.cells #[.int .i64 a, .int .i64 b] 47)
                  have p0 := DP.cell 0
                  have p1 := DP.cell 1
                  simp only [List.getElem?_toArray, List.getElem?_cons_zero, List.getElem?_cons_succ] at p0 p1
                  clear hx hown
                  have HPA := Lib.hid (HP.out w2.heap.size A' k c' _ a (wr.alloc (.cells #[.int .i64 a, .int .i64 b] 47)).drew hownP.drew hbP.size (by omega) (by omega))
                  have DPd := DP.drew
                  go_wp2_with fail
                  go_region_held3 (fun w' => w'.cell? ⟨wr.heap.size, 0, none⟩ = some (.int .i64 a) ∧ w'.cell? ⟨wr.heap.size, 1, none⟩ = some (.int .i64 b)) (go_keep)
                    (first
                      | ((with_reducible refine HPA.out.mono ?_); rintro e wA ⟨A3, k3, c3, rfl, hown3, hgA, -⟩; have DPA := DPd.grown hgA (fun e => own_blk_ne hownP.drew DPd (by decide) e.symm); have p0 := DPA.cell 0; have p1 := DPA.cell 1; simp only [List.getElem?_toArray, List.getElem?_cons_zero, List.getElem?_cons_succ] at p0 p1; have hbA := hbP.drew.grown hgA hbP.size (fun g hg => (hownP.lt g hg).1); have hk3 : k3 ≤ k + 10 := by (have h1 := hown3.1; rw [byteN_length, List.length_append] at h1; have h2 := hownP.1; rw [byteN_length] at h2; have h3 := varN_ten (n := a) (by omega); omega))
                      | ((with_reducible refine (HP.out w2.heap.size A3 k3 c3 _ b _ hown3 hbA.size (by omega) (by omega)).mono ?_); rintro e wB ⟨A4, k4, c4, rfl, hown4, hgB, -⟩; have DPB := DPA.grown hgB (fun e => own_blk_ne hown3 DPA (by decide) e.symm); have p0 := DPB.cell 0; have p1 := DPB.cell 1; simp only [List.getElem?_toArray, List.getElem?_cons_zero, List.getElem?_cons_succ] at p0 p1; have hbB := hbA.grown hgB hbA.size (fun g hg => (hown3.lt g hg).1)))
                  rw [← encN_one, ← encN_append, ← encN_one, ← encN_append, List.append_assoc, List.append_assoc, ← show (S.p.take (j + 1)).flatMap gP = (S.p.take j).flatMap gP ++ ([a] ++ [b]) from HQ.out.trans (by rw [HM.out]; rfl)] at hown4
                  go_wp2_with fail
                  go_roundw
                  case rel => exact ⟨j + 1, A4, k4, c4, by omega, by go_num, rfl, hown4, hbB⟩
                  case measure => simp [intOf]; omega
                · obtain rfl : pn = j := by omega
                  rw [List.take_of_length_le (by have := HL.out; omega)] at hown
                  obtain ⟨wa, hwa⟩ : ∃ x, x = wr := ⟨wr, rfl⟩
                  subst hwa
                  have hba := hb
                  obtain ⟨s0, s1, s2, s3⟩ := (HDS.out.below hba HDS.out.lt).four
                  have HX : Hid (∀ x ∈ ((([n, rn, pn, hn] ++ S.a.flatMap gA) ++ S.r.flatMap gR) ++ S.p.flatMap gP), x < 2 ^ 64) := by
                    intro x hx
                    rcases List.mem_append.1 hx with hx | hx
                    · exact HX.out x hx
                    · exact gP_lt' _ x hx
                  have HXl : Hid (((([n, rn, pn, hn] ++ S.a.flatMap gA) ++ S.r.flatMap gR) ++ S.p.flatMap gP).length ≤ 324) := by
                    show _ ≤ _
                    have h0 := HL.out
                    have h1 : (S.a.flatMap gA).length = S.a.length * 1 := flatN gA 1 (fun _ => rfl) _
                    have h2 : (S.r.flatMap gR).length = S.r.length * 1 := flatN gR 1 (fun _ => rfl) _
                    have h3 : (S.p.flatMap gP).length = S.p.length * 2 := flatN gP 2 (fun _ => rfl) _
                    simp only [List.length_append, List.length_cons, List.length_nil]
                    omega
                  go_wp2_with fail
                  go_loopw [5, 87] (fun o i wr => ∃ (j : Nat) (A' : Option Addr) (k c' : Nat), j ≤ hn ∧ i = .int .i64 j ∧ o = .slice A' k c' ∧ wr.ownsRow w2.heap.size 5 1 (.slice A' k c') k (byteN (encN (((([n, rn, pn, hn] ++ S.a.flatMap gA) ++ S.r.flatMap gR) ++ S.p.flatMap gP) ++ (S.l.take j).flatMap gH))) ∧ Below w2.heap.size w2 wr) (fun _ i _ => hn - (intOf i).toNat)
                  case atStart => exact ⟨0, A', k, c', Nat.zero_le _, rfl, rfl, by simpa using hown, hba⟩
                  case round =>
                    obtain ⟨j, A', k, c', hj, rfl, rfl, hown, hb⟩ := hrel
                    by_cases hlt : j < hn
                    · obtain ⟨ad, x, rfl, had, hx, cx0, cx1, cx2⟩ := ((HRa.out.l.below hb02).below (hb.mono (by omega))).slot hlt
                      have hxb := HB.out.2.2 x (List.mem_of_getElem? hx)
                      have HQ := Lib.hid (take_flat gH hx)
                      obtain ⟨xg, xo, xl⟩ := x
                      dsimp only at cx0 cx1 cx2 hxb
                      obtain ⟨a, rfl⟩ := Int.eq_ofNat_of_zero_le (a := xg) (by omega)
                      obtain ⟨b, rfl⟩ := Int.eq_ofNat_of_zero_le (a := xl) (by omega)
                      have HM : Hid (gH ⟨(a : Int), xo, (b : Int)⟩ = [a, if xo = true then 1 else 0, b]) := by show _ = _; unfold gH; dsimp only; rw [u64N_nat (by omega), u64N_nat (by omega)]
                      have haw : IntKind.u64.wrap (a : Int) = (a : Int) := by rw [IntKind.wrap_u64]; omega
                      have hbw : IntKind.u64.wrap (b : Int) = (b : Int) := by rw [IntKind.wrap_u64]; omega
                      have hk : k ≤ 3720 := by
                        refine bytes_short (m := 372) hown (fun x hx => ?_) ?_
                        · rcases List.mem_append.1 hx with hx | hx
                          · exact HX.out x hx
                          · exact gH_lt' _ x hx
                        · have h1 := HXl.out
                          have h2 : ((S.l.take j).flatMap gH).length = (S.l.take j).length * 3 := flatN gH 3 (fun _ => rfl) _
                          have h3 : (S.l.take j).length ≤ 16 := by rw [List.length_take]; omega
                          rw [List.length_append]
                          omega
                      have DP := Blk.new wr 50 #[.int .i64 a, .bool xo, .int .i64 b]
                      have hownP := hown.alloc (.cells #[.int .i64 a, .bool xo, .int .i64 b] 50)
                      have hbP := hb.alloc hb.size (.cells #[.int .i64 a, .bool xo, .int .i64 b] 50)
                      have p0 := DP.cell 0
                      have p1 := DP.cell 1
                      have p2 := DP.cell 2
                      simp only [List.getElem?_toArray, List.getElem?_cons_zero, List.getElem?_cons_succ] at p0 p1 p2
                      clear hx hown
                      have HPA := Lib.hid (HP.out w2.heap.size A' k c' _ a (wr.alloc (.cells #[.int .i64 a, .bool xo, .int .i64 b] 50)).drew hownP.drew hbP.size (by omega) (by omega))
                      have DPd := DP.drew
                      have HPx0 := Lib.hid (fun A k c L w hown hb hk => put_at 0 0 rfl w2.heap.size A k c L w hown hb hk (by decide))
                      have HPx1 := Lib.hid (fun A k c L w hown hb hk => put_at 1 1 rfl w2.heap.size A k c L w hown hb hk (by decide))
                      cases xo
                      case false =>
                        go_wp2_with fail
                        go_region_held3 (fun w' => w'.cell? ⟨wr.heap.size, 0, none⟩ = some (.int .i64 a) ∧ w'.cell? ⟨wr.heap.size, 2, none⟩ = some (.int .i64 b)) (go_keep)
                          (first
                            | ((with_reducible refine HPA.out.mono ?_); rintro e wA ⟨A3, k3, c3, rfl, hown3, hgA, -⟩; have DPA := DPd.grown hgA (fun e => own_blk_ne hownP.drew DPd (by decide) e.symm); have p0 := DPA.cell 0; have p2 := DPA.cell 2; simp only [List.getElem?_toArray, List.getElem?_cons_zero, List.getElem?_cons_succ] at p0 p2; have hbA := hbP.drew.grown hgA hbP.size (fun g hg => (hownP.lt g hg).1); have hk3 : k3 ≤ k + 10 := by (have h1 := hown3.1; rw [byteN_length, List.length_append] at h1; have h2 := hownP.1; rw [byteN_length] at h2; have h3 := varN_ten (n := a) (by omega); omega))
                            | ((with_reducible refine (HPx0.out A3 k3 c3 _ _ hown3 hbA.size (by omega)).mono ?_); rintro e wB ⟨A4, k4, c4, rfl, hown4, hgB, -⟩; have DPB := DPA.grown hgB (fun e => own_blk_ne hown3 DPA (by decide) e.symm); have p0 := DPB.cell 0; have p2 := DPB.cell 2; simp only [List.getElem?_toArray, List.getElem?_cons_zero, List.getElem?_cons_succ] at p0 p2; have hbB := hbA.grown hgB hbA.size (fun g hg => (hown3.lt g hg).1); have hk4 : k4 ≤ k + 20 := by (have h1 := hown4.1; rw [byteN_length, List.length_append] at h1; have h2 := hown3.1; rw [byteN_length] at h2; have h3 := varN_ten (n := 0) (by omega); omega))
                            | ((with_reducible refine (HP.out w2.heap.size A4 k4 c4 _ b _ hown4 hbB.size (by omega) (by omega)).mono ?_); rintro e wC ⟨A5, k5, c5, rfl, hown5, hgC, -⟩; have DPC := DPB.grown hgC (fun e => own_blk_ne hown4 DPB (by decide) e.symm); have p0 := DPC.cell 0; have p2 := DPC.cell 2; simp only [List.getElem?_toArray, List.getElem?_cons_zero, List.getElem?_cons_succ] at p0 p2; have hbC := hbB.grown hgC hbB.size (fun g hg => (hown4.lt g hg).1)))
                        rw [← encN_one, ← encN_append, ← encN_one, ← encN_append, ← encN_one, ← encN_append, List.append_assoc, List.append_assoc, List.append_assoc, ← show (S.l.take (j + 1)).flatMap gH = (S.l.take j).flatMap gH ++ ([a] ++ ([0] ++ [b])) from HQ.out.trans (by rw [HM.out]; rfl)] at hown5
                        go_wp2_with fail
                        go_roundw
                        case rel => exact ⟨j + 1, A5, k5, c5, by omega, by go_num, rfl, hown5, hbC⟩
                        case measure => simp [intOf]; omega
                      case true =>
                        go_wp2_with fail
                        go_region_held3 (fun w' => w'.cell? ⟨wr.heap.size, 0, none⟩ = some (.int .i64 a) ∧ w'.cell? ⟨wr.heap.size, 2, none⟩ = some (.int .i64 b)) (go_keep)
                          (first
                            | ((with_reducible refine HPA.out.mono ?_); rintro e wA ⟨A3, k3, c3, rfl, hown3, hgA, -⟩; have DPA := DPd.grown hgA (fun e => own_blk_ne hownP.drew DPd (by decide) e.symm); have p0 := DPA.cell 0; have p2 := DPA.cell 2; simp only [List.getElem?_toArray, List.getElem?_cons_zero, List.getElem?_cons_succ] at p0 p2; have hbA := hbP.drew.grown hgA hbP.size (fun g hg => (hownP.lt g hg).1); have hk3 : k3 ≤ k + 10 := by (have h1 := hown3.1; rw [byteN_length, List.length_append] at h1; have h2 := hownP.1; rw [byteN_length] at h2; have h3 := varN_ten (n := a) (by omega); omega))
                            | ((with_reducible refine (HPx1.out A3 k3 c3 _ _ hown3 hbA.size (by omega)).mono ?_); rintro e wB ⟨A4, k4, c4, rfl, hown4, hgB, -⟩; have DPB := DPA.grown hgB (fun e => own_blk_ne hown3 DPA (by decide) e.symm); have p0 := DPB.cell 0; have p2 := DPB.cell 2; simp only [List.getElem?_toArray, List.getElem?_cons_zero, List.getElem?_cons_succ] at p0 p2; have hbB := hbA.grown hgB hbA.size (fun g hg => (hown3.lt g hg).1); have hk4 : k4 ≤ k + 20 := by (have h1 := hown4.1; rw [byteN_length, List.length_append] at h1; have h2 := hown3.1; rw [byteN_length] at h2; have h3 := varN_ten (n := 1) (by omega); omega))
                            | ((with_reducible refine (HP.out w2.heap.size A4 k4 c4 _ b _ hown4 hbB.size (by omega) (by omega)).mono ?_); rintro e wC ⟨A5, k5, c5, rfl, hown5, hgC, -⟩; have DPC := DPB.grown hgC (fun e => own_blk_ne hown4 DPB (by decide) e.symm); have p0 := DPC.cell 0; have p2 := DPC.cell 2; simp only [List.getElem?_toArray, List.getElem?_cons_zero, List.getElem?_cons_succ] at p0 p2; have hbC := hbB.grown hgC hbB.size (fun g hg => (hown4.lt g hg).1)))
                        rw [← encN_one, ← encN_append, ← encN_one, ← encN_append, ← encN_one, ← encN_append, List.append_assoc, List.append_assoc, List.append_assoc, ← show (S.l.take (j + 1)).flatMap gH = (S.l.take j).flatMap gH ++ ([a] ++ ([1] ++ [b])) from HQ.out.trans (by rw [HM.out]; rfl)] at hown5
                        go_wp2_with fail
                        go_roundw
                        case rel => exact ⟨j + 1, A5, k5, c5, by omega, by go_num, rfl, hown5, hbC⟩
                        case measure => simp [intOf]; omega
                    · obtain rfl : hn = j := by omega
                      rw [List.take_of_length_le (by have := HL.out; omega)] at hown
                      obtain ⟨wa, hwa⟩ : ∃ x, x = wr := ⟨wr, rfl⟩
                      subst hwa
                      have hba := hb
                      obtain ⟨s0, s1, s2, s3⟩ := (HDS.out.below hba HDS.out.lt).four
                      obtain ⟨s, hcv, hbs⟩ := string_of wa w2.heap.size A' k c' _ (encN_bytes _) hown
                      have HSt := Lib.hid hbs
                      go_wp2_with fail
                      go_ret2
                      exact ⟨hb02.trans (hba.mono (by omega)), s, rfl, by rw [HSt.out, HS4.out]; simp only [encN_append, List.append_assoc]⟩
end Go.Proofs.Ytbmkbnalembbjaa

namespace Go.Proofs.Ytbmkbnalembbjaa
open Go.RowKit
theorem opsN_inj : ∀ (l m : List OpV), (∀ o ∈ l, OpW o) → (∀ o ∈ m, OpW o) → encN (opsN l) = encN (opsN m) → l = m
  | [], [], _, _, _ => rfl
  | [], o :: m, _, _, h => by
    have h2 := encN_len (opsN (o :: m))
    rw [← h] at h2
    simp [opsN, opN, encN] at h2
  | o :: l, [], _, _, h => by
    have h2 := encN_len (opsN (o :: l))
    rw [h] at h2
    simp [opsN, opN, encN] at h2
  | o :: l, p :: m, hl, hm, h => by
    have e1 : encN (opsN (o :: l)) = encN (opN o) ++ encN (opsN l) := by rw [← encN_append]; rfl
    have e2 : encN (opsN (p :: m)) = encN (opN p) ++ encN (opsN m) := by rw [← encN_append]; rfl
    rw [e1, e2] at h
    have r1 := numsR_put 5 (opN o) (encN (opsN l)) false rfl (opN_lt o)
    have r2 := numsR_put 5 (opN p) (encN (opsN m)) false rfl (opN_lt p)
    rw [h, r2] at r1
    have h1 : opN p = opN o := congrArg Prod.fst r1
    have h2 : encN (opsN m) = encN (opsN l) := congrArg (fun q => q.2.1) r1
    have ho : p = o := by rw [← opOf_opN (hm p (by simp)), ← opOf_opN (hl o (by simp)), h1]
    have hr := opsN_inj l m (fun x hx => hl x (List.mem_cons_of_mem _ hx)) (fun x hx => hm x (List.mem_cons_of_mem _ hx)) h2.symm
    rw [ho, hr]
set_option maxRecDepth 100000 in
set_option maxHeartbeats 1000000 in
theorem tapes_true (w : World) : Calls Try.prog 6 #[] w fun e w' => e = .returned (.bool true) ∧ Below w.heap.size w w' := by
  have hb1 := below_new w (.cells #[.int .i64 2, .int .i64 0, .int .i64 0, .int .i64 0, .int .u64 0] 39)
  have hr := reads_new w (opsC [⟨2, 0, 0, 0, 0⟩]) 39 1 5 rfl
  have H := Lib.hid (tapeOps_any (some ⟨w.heap.size, 0, none⟩) 1 1 [⟨2, 0, 0, 0, 0⟩] _ (hr.more (by simp)) (by intro o ho; rw [List.mem_singleton.1 ho]; rfl))
  clear hr
  go_enter Try.func6, Try.ntmps6
  go_wp2_with fail
  refine H.out.mono ?_
  rintro e w1 ⟨hb2, hc⟩
  rcases hc with ⟨h, -⟩ | ⟨-, s, rfl, hs⟩
  · omega
  · have hsz : s.size = 5 := by rw [← bytesN_length, hs]; decide +kernel
    clear hs
    go_wp2
    go_ret
    exact ⟨by first | rfl | simp [hsz], below_step hb1 hb2⟩
end Go.Proofs.Ytbmkbnalembbjaa

namespace Go.Proofs.Ytbmkbnalembbjaa
open Go.RowKit
set_option maxHeartbeats 400000 in
theorem equal_op (A A2 : Option Addr) (n c c2 B B2 : Nat) (l : List OpV) (w : World) (hr : Reads w B 5 A n (opsC l)) (hr2 : Reads w B2 5 A2 n (opsC l)) (hn : n ≤ 1000000000000000000) :
    Calls Try.prog 9 #[.slice A n c, .slice A2 n c2] w fun e w' => e = .returned (.bool true) ∧ ∃ q, w' = w.drewN q := by
  go_enter Try.func9, Try.ntmps9
  go_wp2
  go_loopw [13] (fun i wr => ∃ j : Nat, j ≤ n ∧ i = .int .i64 j ∧ ∃ q, wr = w.drewN q) (fun i _ => n - (intOf i).toNat)
  case atStart => exact ⟨0, Nat.zero_le _, rfl, 0, rfl⟩
  case round =>
    obtain ⟨j, hj, rfl, q, rfl⟩ := hrel
    by_cases hlt : j < n
    · obtain ⟨ad, r, rfl, _, hs, c0, c1, c2, c3, c4⟩ := hr.op hlt
      obtain ⟨ad2, r2, rfl, _, hs2, d0, d1, d2, d3, d4⟩ := hr2.op hlt
      obtain rfl : r = r2 := Option.some.inj (hs.symm.trans hs2)
      obtain ⟨x1, x2, x3, x4, x5⟩ := r
      dsimp only at *
      have hlt' : (j : Int) < n := by omega
      clear hs hs2
      go_wp2
      go_quiet (fail)
      go_wp2
      go_roundw
      case rel => exact ⟨j + 1, by omega, by go_num, _, rfl⟩
      case measure => simp [intOf]; omega
    · go_wp2
      go_ret
      exact ⟨rfl, _, rfl⟩
end Go.Proofs.Ytbmkbnalembbjaa

namespace Go.Proofs.Ytbmkbnalembbjaa
open Go.RowKit
end Go.Proofs.Ytbmkbnalembbjaa

namespace Go.Proofs.Ytbmkbnalembbjaa
open Go.RowKit
set_option maxHeartbeats 400000 in
theorem equal_u64 (A A2 : Option Addr) (n c m c2 B B2 : Nat) (xs ys : List Int) (w : World) (hr : Reads w B 1 A n (xs.map (.int .u64))) (hr2 : Reads w B2 1 A2 m (ys.map (.int .u64))) (hn : n ≤ 1000000000000000000) (hm : m ≤ 1000000000000000000) :
    Calls Try.prog 27 #[.slice A n c, .slice A2 m c2] w fun e w' => e = .returned (.bool (decide (xs = ys))) ∧ ∃ q, w' = w.drewN q := by
  have hxl : xs.length = n := by have := hr.1; simpa using this
  have hyl : ys.length = m := by have := hr2.1; simpa using this
  have HX := Lib.hid hxl
  have HY := Lib.hid hyl
  clear hxl hyl
  by_cases hnm : n = m
  · subst hnm
    go_enter Try.func27, Try.ntmps27
    go_wp2
    go_loopw [13] (fun i wr => ∃ j : Nat, j ≤ n ∧ i = .int .i64 j ∧ xs.take j = ys.take j ∧ ∃ q, wr = w.drewN q) (fun i _ => n - (intOf i).toNat)
    case atStart => exact ⟨0, Nat.zero_le _, rfl, by simp, 0, rfl⟩
    case round =>
      obtain ⟨j, hj, rfl, ht, q, rfl⟩ := hrel
      have HT := Lib.hid ht
      clear ht
      by_cases hlt : j < n
      · obtain ⟨ad, u, rfl, _, hx, hc⟩ := hr.at_ hlt
        obtain ⟨ad2, u2, rfl, _, hx2, hc2⟩ := hr2.at_ hlt
        have hl : j < xs.length := by rw [HX.out]; exact hlt
        have hl2 : j < ys.length := by rw [HY.out]; exact hlt
        rw [List.getElem?_map, List.getElem?_eq_getElem hl] at hx
        rw [List.getElem?_map, List.getElem?_eq_getElem hl2] at hx2
        obtain rfl : u = .int .u64 xs[j] := by simpa using hx.symm
        obtain rfl : u2 = .int .u64 ys[j] := by simpa using hx2.symm
        clear hx hx2
        have T : Hid (xs.take (j + 1) = ys.take (j + 1) ↔ xs[j] = ys[j]) := by
          show _ ↔ _
          rw [List.take_succ_eq_append_getElem hl, List.take_succ_eq_append_getElem hl2, HT.out]
          constructor
          · intro h
            have := List.append_cancel_left h
            simpa using this
          · intro h; rw [h]
        have hlt' : (j : Int) < n := by omega
        generalize hgx : xs[j] = x at *
        generalize hgy : ys[j] = y at *
        have HGX := Lib.hid hgx
        have HGY := Lib.hid hgy
        clear hgx hgy
        by_cases he : x = y
        · subst he
          go_wp2
          go_quiet (fail)
          go_wp2
          go_roundw
          case rel => exact ⟨j + 1, by omega, by go_num, T.out.2 (by simp), _, rfl⟩
          case measure => simp [intOf]; omega
        · have he2 : (x == y) = false := by simpa using he
          have he3 : (x != y) = true := by simpa using he
          go_wp2
          go_quiet (fail)
          go_wp2
          go_ret
          refine ⟨?_, _, drewN_add _ _ _⟩
          have : ¬ xs = ys := by
            intro h
            apply he
            rw [← HGX.out, ← HGY.out]
            subst h
            rfl
          rw [decide_eq_false this]
          rfl
      · go_wp2
        go_ret
        have hjn : j = n := by omega
        subst hjn
        exact ⟨by rw [decide_eq_true (eq_of_takes _ _ _ HX.out HY.out HT.out)]; rfl, _, rfl⟩
  · have hne : ¬ xs = ys := by
      intro h
      subst h
      exact hnm (HX.out.symm.trans HY.out)
    have e1 : ((n : Int) == (m : Int)) = false := by simp; omega
    have e2 : ((n : Int) != (m : Int)) = true := by simp; omega
    have e3 : (n == m) = false := by simpa using hnm
    have e4 : (n != m) = true := by simpa using hnm
    go_enter Try.func27, Try.ntmps27
    go_wp2
    go_ret
    exact ⟨by rw [decide_eq_false hne]; rfl, 0, rfl⟩
end Go.Proofs.Ytbmkbnalembbjaa

namespace Go.Proofs.Ytbmkbnalembbjaa
open Go.RowKit
set_option maxHeartbeats 400000 in
theorem equal_int (A A2 : Option Addr) (n c m c2 B B2 : Nat) (xs ys : List Int) (w : World) (hr : Reads w B 1 A n (xs.map (.int .i64))) (hr2 : Reads w B2 1 A2 m (ys.map (.int .i64))) (hn : n ≤ 1000000000000000000) (hm : m ≤ 1000000000000000000) :
    Calls Try.prog 28 #[.slice A n c, .slice A2 m c2] w fun e w' => e = .returned (.bool (decide (xs = ys))) ∧ ∃ q, w' = w.drewN q := by
  have hxl : xs.length = n := by have := hr.1; simpa using this
  have hyl : ys.length = m := by have := hr2.1; simpa using this
  have HX := Lib.hid hxl
  have HY := Lib.hid hyl
  clear hxl hyl
  by_cases hnm : n = m
  · subst hnm
    go_enter Try.func28, Try.ntmps28
    go_wp2
    go_loopw [13] (fun i wr => ∃ j : Nat, j ≤ n ∧ i = .int .i64 j ∧ xs.take j = ys.take j ∧ ∃ q, wr = w.drewN q) (fun i _ => n - (intOf i).toNat)
    case atStart => exact ⟨0, Nat.zero_le _, rfl, by simp, 0, rfl⟩
    case round =>
      obtain ⟨j, hj, rfl, ht, q, rfl⟩ := hrel
      have HT := Lib.hid ht
      clear ht
      by_cases hlt : j < n
      · obtain ⟨ad, u, rfl, _, hx, hc⟩ := hr.at_ hlt
        obtain ⟨ad2, u2, rfl, _, hx2, hc2⟩ := hr2.at_ hlt
        have hl : j < xs.length := by rw [HX.out]; exact hlt
        have hl2 : j < ys.length := by rw [HY.out]; exact hlt
        rw [List.getElem?_map, List.getElem?_eq_getElem hl] at hx
        rw [List.getElem?_map, List.getElem?_eq_getElem hl2] at hx2
        obtain rfl : u = .int .i64 xs[j] := by simpa using hx.symm
        obtain rfl : u2 = .int .i64 ys[j] := by simpa using hx2.symm
        clear hx hx2
        have T : Hid (xs.take (j + 1) = ys.take (j + 1) ↔ xs[j] = ys[j]) := by
          show _ ↔ _
          rw [List.take_succ_eq_append_getElem hl, List.take_succ_eq_append_getElem hl2, HT.out]
          constructor
          · intro h
            have := List.append_cancel_left h
            simpa using this
          · intro h; rw [h]
        have hlt' : (j : Int) < n := by omega
        generalize hgx : xs[j] = x at *
        generalize hgy : ys[j] = y at *
        have HGX := Lib.hid hgx
        have HGY := Lib.hid hgy
        clear hgx hgy
        by_cases he : x = y
        · subst he
          go_wp2
          go_quiet (fail)
          go_wp2
          go_roundw
          case rel => exact ⟨j + 1, by omega, by go_num, T.out.2 (by simp), _, rfl⟩
          case measure => simp [intOf]; omega
        · have he2 : (x == y) = false := by simpa using he
          have he3 : (x != y) = true := by simpa using he
          go_wp2
          go_quiet (fail)
          go_wp2
          go_ret
          refine ⟨?_, _, drewN_add _ _ _⟩
          have : ¬ xs = ys := by
            intro h
            apply he
            rw [← HGX.out, ← HGY.out]
            subst h
            rfl
          rw [decide_eq_false this]
          rfl
      · go_wp2
        go_ret
        have hjn : j = n := by omega
        subst hjn
        exact ⟨by rw [decide_eq_true (eq_of_takes _ _ _ HX.out HY.out HT.out)]; rfl, _, rfl⟩
  · have hne : ¬ xs = ys := by
      intro h
      subst h
      exact hnm (HX.out.symm.trans HY.out)
    have e1 : ((n : Int) == (m : Int)) = false := by simp; omega
    have e2 : ((n : Int) != (m : Int)) = true := by simp; omega
    have e3 : (n == m) = false := by simpa using hnm
    have e4 : (n != m) = true := by simpa using hnm
    go_enter Try.func28, Try.ntmps28
    go_wp2
    go_ret
    exact ⟨by rw [decide_eq_false hne]; rfl, 0, rfl⟩
end Go.Proofs.Ytbmkbnalembbjaa

namespace Go.Proofs.Ytbmkbnalembbjaa
open Go.RowKit
set_option maxHeartbeats 400000 in
theorem equal_slotS (A A2 : Option Addr) (n c c2 B B2 : Nat) (l : List Slot) (w : World) (hr : Reads w B 3 A n (slotsC l)) (hr2 : Reads w B2 3 A2 n (slotsC l)) (hn : n ≤ 1000000000000000000) :
    Calls Try.prog 18 #[.slice A n c, .slice A2 n c2] w fun e w' => e = .returned (.bool true) ∧ ∃ q, w' = w.drewN q := by
  go_enter Try.func18, Try.ntmps18
  go_wp2
  go_loopw [13] (fun i wr => ∃ j : Nat, j ≤ n ∧ i = .int .i64 j ∧ ∃ q, wr = w.drewN q) (fun i _ => n - (intOf i).toNat)
  case atStart => exact ⟨0, Nat.zero_le _, rfl, 0, rfl⟩
  case round =>
    obtain ⟨j, hj, rfl, q, rfl⟩ := hrel
    by_cases hlt : j < n
    · obtain ⟨ad, r, rfl, _, hs, c0, c1, cu⟩ := hr.slot hlt
      obtain ⟨ad2, r2, rfl, _, hs2, d0, d1, du⟩ := hr2.slot hlt
      obtain rfl : r = r2 := Option.some.inj (hs.symm.trans hs2)
      obtain ⟨x, y, z⟩ := r
      dsimp only at *
      have hlt' : (j : Int) < n := by omega
      clear hs hs2
      go_wp2
      go_quiet (fail)
      go_wp2
      go_roundw
      case rel => exact ⟨j + 1, by omega, by go_num, _, rfl⟩
      case measure => simp [intOf]; omega
    · go_wp2
      go_ret
      exact ⟨rfl, _, rfl⟩
theorem eq_trueS {α : Type} [DecidableEq α] (a : α) : decide (a = a) = true := decide_eq_true rfl
set_option maxRecDepth 100000 in
set_option maxHeartbeats 2000000 in
theorem sameSt_true (A : Option Addr) (n c : Nat) (RA : Option Addr) (rn rc : Nat) (PA : Option Addr) (pn pc : Nat) (HA : Option Addr) (hn hc : Nat) (A' : Option Addr) (c' : Nat) (RA' : Option Addr) (rc' : Nat) (PA' : Option Addr) (pc' : Nat) (HA' : Option Addr) (hc' : Nat) (S : St) (w : World)
    (hR : StR w w.heap.size A n RA rn PA pn HA hn S) (hR' : StR w w.heap.size A' n RA' rn PA' pn HA' hn S) (h1 : n ≤ 1000000000000000000) (h2 : rn ≤ 1000000000000000000) (h3 : pn ≤ 1000000000000000000) (h4 : hn ≤ 1000000000000000000) :
    Calls Try.prog 12 #[.agg #[.slice A n c, .slice RA rn rc, .slice PA pn pc, .slice HA hn hc], .agg #[.slice A' n c', .slice RA' rn rc', .slice PA' pn pc', .slice HA' hn hc']] w fun e w' => e = .returned (.bool true) ∧ Below w.heap.size w w' := by
  have hb1 := below_new w (.cells #[.slice A n c, .slice RA rn rc, .slice PA pn pc, .slice HA hn hc] 29)
  have DS := (Blk.new w 29 #[.slice A n c, .slice RA rn rc, .slice PA pn pc, .slice HA hn hc]).alloc (.cells #[.slice A' n c', .slice RA' rn rc', .slice PA' pn pc', .slice HA' hn hc'] 29)
  have DT := Blk.new (w.alloc (.cells #[.slice A n c, .slice RA rn rc, .slice PA pn pc, .slice HA hn hc] 29)) 29 #[.slice A' n c', .slice RA' rn rc', .slice PA' pn pc', .slice HA' hn hc']
  have hb2 := hb1.alloc hb1.size (.cells #[.slice A' n c', .slice RA' rn rc', .slice PA' pn pc', .slice HA' hn hc'] 29)
  rw [World.size_alloc] at DT
  have R1 := hR.below hb2
  have R2 := hR'.below hb2
  have E1 := Lib.hid (fun W r r' => equal_u64 A A' n c n c' w.heap.size w.heap.size S.a S.a W r r' h1 h1)
  have E2 := Lib.hid (fun W r r' => equal_int RA RA' rn rc rn rc' w.heap.size w.heap.size S.r S.r W r r' h2 h2)
  have E3 := Lib.hid (fun W r r' => equal_pin PA PA' pn pc pc' w.heap.size w.heap.size S.p W r r' h3)
  have E4 := Lib.hid (fun W r r' => equal_slotS HA HA' hn hc hc' w.heap.size w.heap.size S.l W r r' h4)
  simp only [eq_trueS] at E1 E2
  obtain ⟨s0, s1, s2, s3⟩ := DS.four
  obtain ⟨t0, t1, t2, t3⟩ := DT.four
  clear hR hR'
  go_enter Try.func12, Try.ntmps12
  go_wp2_with fail
  refine Calls.mono (E1.out _ (by exact R1.a) (by exact R2.a)) ?_
  rintro e w1 ⟨rfl, q1, rfl⟩
  go_wp2_with fail
  refine Calls.mono (E2.out _ (by exact R1.r) (by exact R2.r)) ?_
  rintro e w2 ⟨rfl, q2, rfl⟩
  go_wp2_with fail
  refine Calls.mono (E3.out _ (by exact R1.p) (by exact R2.p)) ?_
  rintro e w3 ⟨rfl, q3, rfl⟩
  go_wp2_with fail
  refine Calls.mono (E4.out _ (by exact R1.l) (by exact R2.l)) ?_
  rintro e w4 ⟨rfl, q4, rfl⟩
  go_wp2_with fail
  go_ret
  exact ⟨by first | rfl | simp, by first | exact below_drewN hb2 _ | exact below_drewN (below_drewN (below_drewN (below_drewN hb2 _) _) _) _⟩
end Go.Proofs.Ytbmkbnalembbjaa

namespace Go.Proofs.Ytbmkbnalembbjaa
open Go.ChangeShapes Go.WideShapes Go.ChangeAt Go.RowKit Go.Joins Go.Deep
instance : Inhabited OpV := ⟨⟨0, 0, 0, 0, 0⟩⟩
theorem open_elemsW {α : Type} [Inhabited α] (f : α → List Value) (Q : α → Prop) (k : Nat) (hk0 : 0 < k) (hf : ∀ a, (f a).length = k) {H : Type} {enc : TypeId × Value → H} {P : Program} {t e : TypeId} {W : World} {r : Reach} {base : Nat} {sp : Nat → Bool} {v : Value} {d : DataW H} {ps : List MemPlace}
    (ht : P.underlying t = some (.slice e)) (hc : P.cellsOf e = k) (hel : ∀ n cs y, DataW.trod enc P W 0 sp true n e cs = some y → ∃ a, cs = f a ∧ Q a)
    (hval : Value.okWide P W r base t v) (hlt : ∀ x ∈ ps, x.block < W.heap.size) (h : DataW.Trod enc P W 0 sp true t v d ps) :
    ∃ (A : Option Addr) (n c : Nat) (l : List α), v = .slice A n c ∧ n ≤ c ∧ c ≤ maxLen ∧ Reads W W.heap.size k A n (l.flatMap f) ∧ l.length = n ∧ (∀ a ∈ l, Q a) ∧ (A = none → c = 0) := by
  obtain ⟨a0, len0, cap0, rfl⟩ := okWide_slice ht hval
  obtain ⟨fuel, hf'⟩ := h
  rcases open_slice ht hf' with ⟨hcs, hx⟩ | ⟨a, len, cap, m, n, D, Pl, hcs, hb, hlc, hm, hmm, hx, hcell⟩
  · simp [Value.cells] at hcs
    obtain ⟨rfl, rfl, rfl⟩ := hcs
    exact ⟨none, 0, 0, [], rfl, Nat.le_refl _, Nat.zero_le _, Reads.none_, rfl, (fun a ha => by cases ha), fun _ => rfl⟩
  · simp [Value.cells] at hcs
    obtain ⟨rfl, rfl, rfl⟩ := hcs
    simp only [Prod.mk.injEq] at hx
    obtain ⟨rfl, rfl⟩ := hx
    have hlm : len0 ≤ m := by rw [hmm]; split <;> omega
    rw [hc] at hcell hlt
    obtain ⟨V, hV⟩ := choose_lt (α := α) (p := fun i x => W.cells? 0 (a.add (i * k)) k = some (f x) ∧ Q x) (fun i hi => by
      obtain ⟨cs', h1, h2⟩ := hcell i hi
      obtain ⟨x, rfl, hq⟩ := hel _ _ _ h2
      exact ⟨x, h1, hq⟩)
    refine ⟨some a, len0, cap0, (List.range len0).map V, rfl, hlc, hm, ⟨by rw [flat_length f k hf]; simp, fun hn => ⟨a, rfl, ?_, fun j u hu => ?_⟩⟩, by simp, fun y hy => by
      obtain ⟨i, hi, rfl⟩ := List.mem_map.1 hy
      exact (hV i (by have := List.mem_range.1 hi; omega)).2, fun h => by cases h⟩
    · have := hlt (.cell a.block (a.off + 0)) (List.mem_append_left _ (by
        unfold MemPlace.row
        refine List.mem_map.2 ⟨0, List.mem_range.2 ?_, rfl⟩
        exact Nat.mul_pos (by omega) hk0))
      exact this
    · have hj : j < len0 * k := by
        have := (List.getElem?_eq_some_iff.1 hu).1
        rw [flat_length f k hf] at this
        simpa using this
      have hq : j / k < len0 := Nat.div_lt_of_lt_mul (by rw [Nat.mul_comm]; exact hj)
      have hr : j % k < k := Nat.mod_lt _ hk0
      have hjd : j / k * k + j % k = j := by rw [Nat.mul_comm]; exact Nat.div_add_mod j k
      rw [← hjd, flat_at f k hf _ _ _ (by simpa using hq) hr] at hu
      simp only [List.getElem_map, List.getElem_range] at hu
      have := (World.cells?_some (hV (j / k) (by omega)).1).2.2 (j % k) hr
      rw [add_of_add, hjd] at this
      rw [this]
      exact hu
theorem trod_struct5o {H : Type} {enc : TypeId × Value → H} {P : Program} {w : World} {base : Nat} {spare : Nat → Bool} {held : Bool} {t : TypeId} {f0 f1 f2 f3 f4 : Field} {fuel : Nat} {cs : List Value} {x : DataW H × List MemPlace} (ht : P.underlying t = some (.struct #[f0, f1, f2, f3, f4])) (h : DataW.trod enc P w base spare held fuel t cs = some x) :
    ∃ y0 y1 y2 y3 y4 n, cs.length = P.cellsOf t ∧ DataW.trod enc P w base spare held n f0.type ((cs.drop f0.offset).take (P.cellsOf f0.type)) = some y0 ∧
      DataW.trod enc P w base spare held n f1.type ((cs.drop f1.offset).take (P.cellsOf f1.type)) = some y1 ∧ DataW.trod enc P w base spare held n f2.type ((cs.drop f2.offset).take (P.cellsOf f2.type)) = some y2 ∧
      DataW.trod enc P w base spare held n f3.type ((cs.drop f3.offset).take (P.cellsOf f3.type)) = some y3 ∧ DataW.trod enc P w base spare held n f4.type ((cs.drop f4.offset).take (P.cellsOf f4.type)) = some y4 := by
  obtain ⟨xs, n, _, rfl, hl, hlen, hf⟩ := DataW.trod_struct ht h
  match xs, hlen with
  | [y0, y1, y2, y3, y4], _ => exact ⟨y0, y1, y2, y3, y4, n, hl, by simpa using hf 0 _ rfl, by simpa using hf 1 _ rfl, by simpa using hf 2 _ rfl, by simpa using hf 3 _ rfl, by simpa using hf 4 _ rfl⟩
theorem list5o {α : Type} {l : List α} (h : l.length = 5) : ∃ a b c d e, l = [a, b, c, d, e] := by
  match l, h with
  | [a, b, c, d, e], _ => exact ⟨a, b, c, d, e, rfl⟩
end Go.Proofs.Ytbmkbnalembbjaa

namespace Go.Proofs.Ytbmkbnalembbjaa
open Go.ChangeShapes Go.WideShapes Go.ChangeAt Go.RowKit Go.Joins Go.Deep
theorem i64_of {x : Int} (h : (Lit.int .i64 x).wf = true) : i64R x := by
  simp [Lit.wf, IntKind.min, IntKind.max, IntKind.signed, IntKind.bits] at h
  unfold i64R
  omega
theorem u64_of {x : Int} (h : (Lit.int .u64 x).wf = true) : 0 ≤ x ∧ x < 18446744073709551616 := by
  simp [Lit.wf, IntKind.min, IntKind.max, IntKind.signed, IntKind.bits] at h
  omega
set_option maxRecDepth 100000 in
theorem open_opsW {H : Type} {enc : TypeId × Value → H} {W : World} {r : Reach} {base : Nat} {sp : Nat → Bool} {v : Value} {d : DataW H} {ps : List MemPlace}
    (hval : Value.okWide Try.prog W r base 22 v) (hlt : ∀ x ∈ ps, x.block < W.heap.size) (h : DataW.Trod enc Try.prog W 0 sp true 22 v d ps) :
    ∃ (A : Option Addr) (n c : Nat) (l : List OpV), v = .slice A n c ∧ n ≤ c ∧ c ≤ maxLen ∧ Reads W W.heap.size 5 A n (opsC l) ∧ (∀ o ∈ l, OpW o) ∧ (A = none → c = 0) := by
  have k0 : Try.prog.cellsOf 3 = 1 := by kernel_rfl
  have k4 : Try.prog.cellsOf 37 = 1 := by kernel_rfl
  obtain ⟨A, n, c, l, h1, h2, h3, h4, -, h5⟩ := open_elemsW opC OpW 5 (by decide) (fun _ => rfl) Try.underlying22 (by kernel_rfl) (fun n cs y hy => by
    obtain ⟨y0, y1, y2, y3, y4, m, hl, a0, a1, a2, a3, a4⟩ := trod_struct5o Try.underlying39 hy
    have hl2 : cs.length = 5 := hl.trans (by kernel_rfl)
    obtain ⟨c0, c1, c2, c3, c4, rfl⟩ := list5o hl2
    dsimp only at a0 a1 a2 a3 a4
    rw [k0] at a0 a1 a2 a3
    rw [k4] at a4
    obtain ⟨x0, q0, p0, r0⟩ := DataW.trod_int Try.underlying3 a0
    obtain ⟨x1, q1, p1, r1⟩ := DataW.trod_int Try.underlying3 a1
    obtain ⟨x2, q2, p2, r2⟩ := DataW.trod_int Try.underlying3 a2
    obtain ⟨x3, q3, p3, r3⟩ := DataW.trod_int Try.underlying3 a3
    obtain ⟨x4, q4, p4, r4⟩ := DataW.trod_int Try.underlying37 a4
    simp at q0 q1 q2 q3 q4
    subst q0 q1 q2 q3 q4
    exact ⟨⟨x0, x1, x2, x3, x4⟩, rfl, ⟨i64_of (by first | exact p0 | exact r0), i64_of (by first | exact p1 | exact r1), i64_of (by first | exact p2 | exact r2), i64_of (by first | exact p3 | exact r3), u64_of (by first | exact p4 | exact r4)⟩⟩) hval hlt h
  exact ⟨A, n, c, l, h1, h2, h3, h4, h5⟩
end Go.Proofs.Ytbmkbnalembbjaa

namespace Go.Proofs.Ytbmkbnalembbjaa
open Go.RowKit
structure Rm where
  loc : Int
  len : Int
  used : Int
deriving DecidableEq
def roomC (r : Rm) : List Value := [.int .i64 r.loc, .int .i64 r.len, .int .i64 r.used]
def roomsC (l : List Rm) : List Value := l.flatMap roomC
def isP (x : Int) : Bool := [1, 2, 4, 8, 16, 32, 64, 128, 256].contains x
def pieceB (r : Rm) (all : Nat) : Bool :=
  decide (1 ≤ r.len) && (decide (r.len ≤ all) && (isP r.len && (decide (0 ≤ r.loc) && (decide (r.loc ≤ all - r.len) && (decide (r.loc % r.len = 0) && (decide (r.used ≤ r.len) && decide (r.len / 2 < r.used)))))))
def roomsE (all : Nat) : List Rm → Int → Int
  | [], _ => 0
  | r :: t, e => if pieceB r all = true ∧ e ≤ r.loc then roomsE all t (r.loc + r.len) else 3
def twinE (o : Int) (l : List Rm) : Int := if 0 ≤ o ∧ o ≤ 8 then roomsE (2 ^ o.toNat) l 0 else 4
def Chain (o : Nat) : Nat → List Rm → Prop
  | _, [] => True
  | e, r :: t => ∃ k a u : Nat, k ≤ o ∧ r = ⟨a, ((2 ^ k : Nat) : Int), u⟩ ∧ a + 2 ^ k ≤ 2 ^ o ∧ a % 2 ^ k = 0 ∧ u ≤ 2 ^ k ∧ 2 ^ k / 2 < u ∧ e ≤ a ∧ Chain o (a + 2 ^ k) t
theorem Chain.mem {o : Nat} : ∀ {l : List Rm} {e : Nat}, Chain o e l → ∀ r ∈ l, ∃ k a u : Nat, k ≤ o ∧ r = ⟨a, ((2 ^ k : Nat) : Int), u⟩ ∧ a + 2 ^ k ≤ 2 ^ o ∧ a % 2 ^ k = 0 ∧ u ≤ 2 ^ k ∧ 2 ^ k / 2 < u ∧ e ≤ a
  | [], _, _, _, h => by simp at h
  | x :: t, e, hc, r, h => by
    obtain ⟨k, a, u, h1, rfl, h2, h3, h4, h5, h6, h7⟩ := hc
    rcases List.mem_cons.1 h with rfl | h
    · exact ⟨k, a, u, h1, rfl, h2, h3, h4, h5, h6⟩
    · obtain ⟨k', a', u', q1, q2, q3, q4, q5, q6, q7⟩ := h7.mem r h
      exact ⟨k', a', u', q1, q2, q3, q4, q5, q6, by omega⟩
theorem Chain.len {o : Nat} : ∀ {l : List Rm} {e : Nat}, Chain o e l → e ≤ 2 ^ o → e + l.length ≤ 2 ^ o
  | [], _, _, h => by simpa using h
  | x :: t, e, hc, _ => by
    obtain ⟨k, a, u, h1, rfl, h2, h3, h4, h5, h6, h7⟩ := hc
    have := h7.len h2
    have hp : 0 < 2 ^ k := Nat.pos_of_ne_zero (by simp)
    simp only [List.length_cons]
    omega
def meetsB (a L : Nat) (r : Rm) : Bool := decide (r.loc < ((a + L : Nat) : Int)) && decide ((a : Int) < r.loc + r.len)
def tgapsL (l : List Rm) : Nat → Nat → List Rn
  | 0, a => if l.any (meetsB a 1) = true then [] else [⟨a, 1⟩]
  | k + 1, a => if l.any (meetsB a (2 ^ (k + 1))) = true then tgapsL l k a ++ tgapsL l k (a + 2 ^ k) else [⟨a, ((2 ^ (k + 1) : Nat) : Int)⟩]
end Go.Proofs.Ytbmkbnalembbjaa

namespace Go.Proofs.Ytbmkbnalembbjaa
open Go.ChangeShapes Go.WideShapes Go.ChangeAt Go.RowKit Go.Joins Go.Deep
instance : Inhabited Rm := ⟨⟨0, 0, 0⟩⟩
theorem open_elemsC {α : Type} [Inhabited α] (f : α → List Value) (k : Nat) (hk0 : 0 < k) (hf : ∀ a, (f a).length = k) {H : Type} {enc : TypeId × Value → H} {P : Program} {t e : TypeId} {W : World} {sp : Nat → Bool} {v : Value} {x : DataW H × List MemPlace} {fuel : Nat}
    (ht : P.underlying t = some (.slice e)) (hc : P.cellsOf e = k) (hel : ∀ n cs y, DataW.trod enc P W 0 sp true n e cs = some y → ∃ a, cs = f a)
    (hlt : ∀ p ∈ x.2, p.block < W.heap.size) (hf' : DataW.trod enc P W 0 sp true fuel t [v] = some x) :
    ∃ (A : Option Addr) (n c : Nat) (l : List α), v = .slice A n c ∧ n ≤ c ∧ c ≤ maxLen ∧ Reads W W.heap.size k A n (l.flatMap f) ∧ l.length = n := by
  rcases open_slice ht hf' with ⟨hcs, hx⟩ | ⟨a, len, cap, m, n, D, Pl, hcs, hb, hlc, hm, hmm, hx, hcell⟩
  · simp at hcs
    subst hcs
    exact ⟨none, 0, 0, [], rfl, Nat.le_refl _, Nat.zero_le _, Reads.none_, rfl⟩
  · simp at hcs
    subst hcs
    subst hx
    have hlm : len ≤ m := by rw [hmm]; split <;> omega
    rw [hc] at hcell hlt
    obtain ⟨V, hV⟩ := choose_lt (α := α) (p := fun i x => W.cells? 0 (a.add (i * k)) k = some (f x)) (fun i hi => by
      obtain ⟨cs', h1, h2⟩ := hcell i hi
      obtain ⟨x, rfl⟩ := hel _ _ _ h2
      exact ⟨x, h1⟩)
    refine ⟨some a, len, cap, (List.range len).map V, rfl, hlc, hm, ⟨by rw [flat_length f k hf]; simp, fun hn => ⟨a, rfl, ?_, fun j u hu => ?_⟩⟩, by simp⟩
    · have := hlt (.cell a.block (a.off + 0)) (List.mem_append_left _ (by
        unfold MemPlace.row
        refine List.mem_map.2 ⟨0, List.mem_range.2 ?_, rfl⟩
        exact Nat.mul_pos (by omega) hk0))
      exact this
    · have hj : j < len * k := by
        have := (List.getElem?_eq_some_iff.1 hu).1
        rw [flat_length f k hf] at this
        simpa using this
      have hq : j / k < len := Nat.div_lt_of_lt_mul (by rw [Nat.mul_comm]; exact hj)
      have hr : j % k < k := Nat.mod_lt _ hk0
      have hjd : j / k * k + j % k = j := by rw [Nat.mul_comm]; exact Nat.div_add_mod j k
      rw [← hjd, flat_at f k hf _ _ _ (by simpa using hq) hr] at hu
      simp only [List.getElem_map, List.getElem_range] at hu
      have := (World.cells?_some (hV (j / k) (by omega))).2.2 (j % k) hr
      rw [add_of_add, hjd] at this
      rw [this]
      exact hu
end Go.Proofs.Ytbmkbnalembbjaa

namespace Go.Proofs.Ytbmkbnalembbjaa
open Go.ChangeShapes Go.WideShapes Go.ChangeAt Go.RowKit Go.Joins Go.Deep
instance inhP : Inhabited Rn := ⟨⟨0, 0⟩⟩
theorem list2P {α : Type} {l : List α} (h : l.length = 2) : ∃ a b, l = [a, b] := by
  match l, h with
  | [a, b], _ => exact ⟨a, b, rfl⟩
end Go.Proofs.Ytbmkbnalembbjaa

namespace Go.Proofs.Ytbmkbnalembbjaa
open Go.ChangeShapes Go.WideShapes Go.ChangeAt Go.RowKit
end Go.Proofs.Ytbmkbnalembbjaa
