/-
  TintLeast answers true for all arenas and lists within the bulk of the statement, and changes no argument: every closed set that contains the start objects contains all reachable objects.
-/
import Derived.Test.YthfjopnomkfegabTintFns
import Derived.Test.YthfjopnomkfegabTintWords
import Derived.Test.YthfjopnomkfegabLaw
import Derived.Test.YthfjopnomkfegabLawNums
namespace Go.Proofs.Ythfjopnomkfegab
open Go.RowKit

set_option maxRecDepth 100000 in
set_option maxHeartbeats 2000000 in
theorem tintLeast_any (A : Option Addr) (n c : Nat) (a : List Int) (A2 : Option Addr) (n2 c2 : Nat) (f : List Int) (A3 : Option Addr) (n3 c3 : Nat) (x : List Int) (w : World) (hr : Reads w w.heap.size 1 A n (a.map (.int .u64))) (hnc : n ≤ c) (hc : c ≤ maxLen) (ha : ∀ x ∈ a, (Lit.int .u64 x).wf = true)
    (hr2 : Reads w w.heap.size 1 A2 n2 (f.map (.int .i64))) (hnc2 : n2 ≤ c2) (hc2 : c2 ≤ maxLen) (hx2 : ∀ z ∈ f, (Lit.int .i64 z).wf = true)
    (hr3 : Reads w w.heap.size 1 A3 n3 (x.map (.int .i64))) (hnc3 : n3 ≤ c3) (hc3 : c3 ≤ maxLen) (hx3 : ∀ z ∈ x, (Lit.int .i64 z).wf = true) (hm2 : n2 ≤ 1048576) (hm3 : n3 ≤ 1048576) :
    Calls Try.prog 4 #[.slice A n c, .slice A2 n2 c2, .slice A3 n3 c3] w fun e w' => e = .returned (.bool true) ∧ Below w.heap.size w w' := by
  clear hc hnc2 hc2 hnc3 hc3 hx3
  by_cases hE : checkE a = 0
  · have h0 := (checkE_ok.1 hE).1
    have hal := (parse_ok h0).1
    have H1 := Lib.hid (fun w hr hr2 => reach_ok A n c a A2 n2 c2 f w hr hnc ha hr2 (by omega) hx2 hE)
    have HRf := Lib.hid (fun z s w hr hs => refsAt_ok A n c a z s w hr hnc ha hE hs)
    have HBg := Lib.hid (fun w hr => begins_any A n c a w hr ha)
    have HBb := Lib.hid (begsL_bounds h0)
    have hkb : (begsL (spotsL a)).length ≤ 256 := by
      unfold begsL
      rw [List.length_map]
      have := List.length_filter_le (fun s : Spot => !s.f) (spotsL a)
      have := spotsL_length a
      omega
    have HLn : Hid (∀ s, (linksL a s).length ≤ 256) := by
      intro s
      have h1 : (linksL a s).length ≤ (refsOf a s).length := by
        unfold linksL
        rw [List.length_map]
        exact List.length_filter_le _ _
      have h2 : (refsOf a s).length ≤ a.length := by unfold refsOf; rw [List.length_take, List.length_drop]; omega
      omega
    generalize spotsL a = S at *
    obtain ⟨i0, hi, hz0, hz1, hz2⟩ := info_parts info_int
    clear hE h0 ha hx2 hal
    go_enter Try.func4, Try.ntmps4
    go_wp2_with fail
    refine (tints_true _).mono ?_
    rintro e w1 ⟨rfl, hb1⟩
    go_wp2_with fail
    refine (H1.out _ ((hr.below hb1).more hb1.size) ((hr2.below hb1).more hb1.size)).mono ?_
    rintro e w2 ⟨hb2, ⟨L, A4, c4, hL, rfl, hown⟩ | ⟨-, rfl⟩⟩
    · have hb02 := below_step hb1 hb2
      have hL256 : L.length ≤ 256 := nodup_bound 256 L hL.once (fun x hx => HBb.out x (hL.begs x hx))
      obtain ⟨k, hk⟩ : ∃ k, k = L.length := ⟨_, rfl⟩
      rw [← hk] at hown hL256 ⊢
      have hrL := Reads.of_own hown
      have HL := Lib.hid hL
      clear hown hk hL hb1 hb2
      go_wp2_with fail
      refine (clone_int A3 n3 c3 _ (x.map (.int .i64)) _ (hr3.below hb02) hb02.size (ints_one x) (by omega)).mono ?_
      rintro e w3 ⟨A5, c5, rfl, hown5, hb3⟩
      have hb03 := below_step hb02 hb3
      have hr23 := hr2.below hb03
      go_wp2_with (at_builtin; refine wpList_append_any _ rfl (.tmp 22) (.tmp 23) 23 rfl w2.heap.size 3 i0 (.int .i64 0) 1 8 Try.underlying23 hi hz0 hz1 hz2 rfl (by decide) (.slice A5 n3 c5) n3 _ rfl hown5 _ A2 n2 c2 (f.map (.int .i64)) rfl hr23 (ints_one f) (by unfold maxLen; omega) (by omega) hb3.size ?_; rintro v' w4 hown6 hgr - -; obtain ⟨A6, c6, rfl⟩ := own_slice hown6; have hb24 := hb3.grown hgr hb3.size (fun g hg => (hown5.lt g hg).1); have hb04 := below_step hb02 hb24; rw [← List.map_append] at hown6; have hrX := Reads.of_own hown6; clear hown6 hown5 hgr hr23 hb03 hb3)
      refine (HBg.out _ ((hr.below hb04).more hb04.size)).mono ?_
      rintro e w5 ⟨hb5, A7, c7, rfl, hown7⟩
      have hb05 := below_step hb04 hb5
      have hrB := Reads.of_own hown7
      have hrX5 := (hrX.below hb5).more hb5.size
      have hrL5 := (hrL.below (below_step hb24 hb5)).more (below_step hb24 hb5).size
      obtain ⟨X, hX⟩ : ∃ X, X = x ++ f := ⟨_, rfl⟩
      obtain ⟨nX, hnX⟩ : ∃ nX, nX = n3 + n2 := ⟨_, rfl⟩
      rw [← hX] at hrX5
      rw [← hnX] at hrX5
      have HX := Lib.hid hX
      have hnXl : nX ≤ 3000000 := by omega
      have wn : IntKind.i64.wrap ((n3 : Int) + n2) = nX := by rw [IntWalk.i64_in _ (by omega)]; omega
      obtain ⟨kb, hkb2⟩ : ∃ kb, kb = (begsL S).length := ⟨_, rfl⟩
      rw [← hkb2] at hrB hkb
      have HKB := Lib.hid hkb2
      rw [← hnX]
      clear hown7 hrX hrL hb24 hb5 hb04 hX hnX
      go_wp2
      go_loopw [28] (fun i wr => ∃ j : Nat, j ≤ kb ∧ i = .int .i64 j ∧ Hid (∀ z ∈ (begsL S).take j, z ∈ X → ∀ y ∈ linksAt a S z, y ∈ X) ∧ Below w5.heap.size w5 wr) (fun i _ => kb - (intOf i).toNat)
      case atStart => exact ⟨0, Nat.zero_le _, rfl, by intro z hz; simp at hz, Below.refl _ _⟩
      case round =>
        obtain ⟨j, hj, rfl, HI, hb⟩ := hrel
        have hbw := below_step hb05 hb
        by_cases hlt : j < kb
        · obtain ⟨ad, z, rfl, had, hz, cz⟩ := (hrB.below hb).num hlt
          have hj1 : j + 1 ≤ kb := hlt
          have HT : Hid ((begsL S).take (j + 1) = (begsL S).take j ++ [z]) := by
            show _ = _
            obtain ⟨q1, q2⟩ := List.getElem?_eq_some_iff.1 hz
            rw [List.take_succ_eq_append_getElem q1, q2]
          by_cases hm : z ∈ X
          · have HCn := Lib.hid (contains_int A6 nX c6 _ X z true wr (hrX5.below hb) (by omega) (decide_eq_true hm))
            obtain ⟨s, hs⟩ := begsL_iff.1 (List.mem_of_getElem? hz)
            have hlk : linksAt a S z = linksL a s := by unfold linksAt; rw [hs]
            have HLK := Lib.hid hlk
            have HRr := Lib.hid (fun w' (hb' : Below wr.heap.size wr w') => HRf.out z s w' ((hr.below (below_step hbw hb')).more (below_step hbw hb').size) hs)
            have HLe := Lib.hid (HLn.out s)
            clear hz hs hlk hm
            generalize linksL a s = M at *
            go_wp2_with fail
            refine HCn.out.mono ?_
            rintro e w6 ⟨rfl, rfl⟩
            go_wp2_with fail
            refine (HRr.out _ (Below.refl _ _)).mono ?_
            rintro e w7 ⟨hb7, A8, c8, rfl, hown8⟩
            have hbx := hb.trans (hb7.mono hb.size)
            by_cases hcl : ∀ y ∈ M, y ∈ X
            · have HW := Lib.hid (within_two A8 A6 M.length c8 nX c6 M X true w7 (Reads.of_own hown8) (by have := HLe.out; omega) ((hrX5.below hbx).more hbx.size) (by omega) (decide_eq_true hcl))
              have HI2 : Hid (∀ z ∈ (begsL S).take (j + 1), z ∈ X → ∀ y ∈ linksAt a S z, y ∈ X) := by
                intro u hu huX
                rw [HT.out, List.mem_append] at hu
                rcases hu with hu | hu
                · exact HI.out u hu huX
                · simp only [List.mem_cons, List.not_mem_nil, or_false] at hu
                  subst hu
                  rw [HLK.out]
                  exact hcl
              clear hown8 hcl
              go_wp2_with fail
              refine HW.out.mono ?_
              rintro e w8 ⟨rfl, hb8⟩
              have hby := hbx.trans (hb8.mono hbx.size)
              go_wp2
              go_roundw
              case rel => exact ⟨j + 1, hj1, by go_num, HI2, hby⟩
              case measure => simp [intOf]; omega
            · have HW := Lib.hid (within_two A8 A6 M.length c8 nX c6 M X false w7 (Reads.of_own hown8) (by have := HLe.out; omega) ((hrX5.below hbx).more hbx.size) (by omega) (decide_eq_false hcl))
              clear hown8 hcl
              go_wp2_with fail
              refine HW.out.mono ?_
              rintro e w8 ⟨rfl, hb8⟩
              have hby := hbx.trans (hb8.mono hbx.size)
              go_wp2
              go_ret
              exact ⟨by first | rfl | simp, below_step hb05 hby⟩
          · have HCn := Lib.hid (contains_int A6 nX c6 _ X z false wr (hrX5.below hb) (by omega) (decide_eq_false hm))
            have HI2 : Hid (∀ z ∈ (begsL S).take (j + 1), z ∈ X → ∀ y ∈ linksAt a S z, y ∈ X) := by
              intro u hu huX
              rw [HT.out, List.mem_append] at hu
              rcases hu with hu | hu
              · exact HI.out u hu huX
              · simp only [List.mem_cons, List.not_mem_nil, or_false] at hu
                subst hu
                exact absurd huX hm
            clear hz hm
            go_wp2_with fail
            refine HCn.out.mono ?_
            rintro e w6 ⟨rfl, rfl⟩
            go_wp2
            go_roundw
            case rel => exact ⟨j + 1, hj1, by go_num, HI2, hb⟩
            case measure => simp [intOf]; omega
        · have hjk : j = kb := by omega
          have hall : ∀ z ∈ L, z ∈ X := by
            have h1 := HI.out
            rw [hjk, List.take_of_length_le (by rw [HKB.out]; exact Nat.le_refl _)] at h1
            refine HL.out.least (· ∈ X) (fun z hz => by rw [HX.out]; exact List.mem_append_right _ hz) (fun z hzX y hy => ?_)
            by_cases hzb : z ∈ begsL S
            · exact h1 z hzb hzX y hy
            · have : linksAt a S z = [] := by
                unfold linksAt
                cases hsp : spotAt S z with
                | none => rfl
                | some s => exact absurd (begsL_iff.2 ⟨s, hsp⟩) hzb
              rw [this] at hy
              cases hy
          have HW := Lib.hid (within_two A4 A6 k c4 nX c6 L X true wr ((hrL5.below hb).more hb.size) (by omega) ((hrX5.below hb).more hb.size) (by omega) (decide_eq_true hall))
          have g0 : decide (j < kb) = false := decide_eq_false hlt
          clear hjk hall HI
          go_wp2_with fail
          refine HW.out.mono ?_
          rintro e w8 ⟨rfl, hb8⟩
          go_wp2
          go_ret
          exact ⟨by first | rfl | simp, below_step hbw hb8⟩
    · go_wp2
      go_ret
      exact ⟨by first | rfl | simp, below_step hb1 hb2⟩
  · have H1 := Lib.hid (fun w hr => reach_bad A n c a A2 n2 c2 w hr hnc ha hE)
    have hE1 : (checkE a != 0) = true := by simpa using hE
    generalize checkE a = E at *
    clear hE
    go_enter Try.func4, Try.ntmps4
    go_wp2_with fail
    refine (tints_true _).mono ?_
    rintro e w1 ⟨rfl, hb1⟩
    go_wp2_with fail
    refine (H1.out _ ((hr.below hb1).more hb1.size)).mono ?_
    rintro e w2 ⟨rfl, hb2⟩
    go_wp2
    go_ret
    exact ⟨by first | rfl | simp, below_step hb1 hb2⟩
end Go.Proofs.Ythfjopnomkfegab
