/-
  Texts joined: TintReach TintReachT Object IndexSpot At IntF ContainsInt TintFns.
-/
import Derived.Test.YtbmkbnalembbjaaRows
import Derived.Test.YtbmkbnalembbjaaS0
import Derived.Test.YtbmkbnalembbjaaS1
import Derived.Test.YtbmkbnalembbjaaS2
namespace Go.Proofs.Ytbmkbnalembbjaa
open Go.RowKit
set_option maxHeartbeats 400000 in
theorem reach_bad (A : Option Addr) (n c : Nat) (a : List Int) (A2 : Option Addr) (n2 c2 : Nat) (w : World) (hr : Reads w w.heap.size 1 A n (a.map (.int .u64))) (hnc : n ≤ c) (ha : ∀ x ∈ a, (Lit.int .u64 x).wf = true) (hE : checkE a ≠ 0) :
    Calls Try.prog 31 #[.slice A n c, .slice A2 n2 c2] w fun e w' => e = .returned (.tuple #[.slice none 0 0, .int .i64 (checkE a)]) ∧ Below w.heap.size w w' := by
  have H := Lib.hid (fun w hr => heap_bad A n c a A2 n2 c2 w hr hnc ha hE)
  have hE1 : (checkE a != 0) = true := by simpa using hE
  generalize checkE a = E at *
  clear hE
  go_enter Try.func31, Try.ntmps31
  go_wp2_with fail
  refine (H.out _ hr).mono ?_
  rintro e w1 ⟨rfl, hb1⟩
  go_wp2
  go_ret2
  exact ⟨rfl, hb1⟩
theorem Search.adds {a : List Int} {S : List Spot} {f out : List Int} {i : Nat} {x : Int} (h : Search a S f out i) (hi : i ≤ out.length) (hx : out[i]? = some x) (hb : ∀ y ∈ linksAt a S x, y ∈ begsL S) :
    ∀ l : List Int, (∀ y ∈ l, y ∈ linksAt a S x) → Search a S f (l.foldl addL out) i ∧ out.length ≤ (l.foldl addL out).length ∧ (∀ y ∈ out, y ∈ l.foldl addL out) ∧ (∀ y ∈ l, y ∈ l.foldl addL out) ∧ (l.foldl addL out)[i]? = some x := by
  intro l
  induction l generalizing out with
  | nil => intro _; exact ⟨h, Nat.le_refl _, fun y hy => hy, by simp, hx⟩
  | cons y l ih =>
    intro hl
    have hy := hl y List.mem_cons_self
    have h1 : Search a S f (addL out y) i := h.add hi (hb y hy) (fun X hX hc => hc x (h.least X hX hc x (List.mem_of_getElem? hx)) y hy)
    have hle := addL_len out y
    have hx1 : (addL out y)[i]? = some x := by
      have hil := (List.getElem?_eq_some_iff.1 hx).1
      unfold addL
      split
      · exact hx
      · rw [List.getElem?_append_left hil]; exact hx
    obtain ⟨q1, q2, q3, q4, q5⟩ := ih h1 (by omega) hx1 (fun z hz => hl z (List.mem_cons_of_mem _ hz))
    have hs := addL_sub out y
    refine ⟨q1, by simp only [List.foldl_cons]; omega, fun z hz => q3 z (hs.1 z hz), fun z hz => ?_, q5⟩
    rcases List.mem_cons.1 hz with rfl | hz
    · exact q3 z hs.2
    · exact q4 z hz
theorem Search.next {a : List Int} {S : List Spot} {f out : List Int} {i : Nat} {x : Int} (h : Search a S f out i) (hx : out[i]? = some x) (hc : ∀ y ∈ linksAt a S x, y ∈ out) : Search a S f out (i + 1) :=
  ⟨h.begs, h.once, h.least, fun k z hk hz y hy => by
    by_cases hki : k = i
    · subst hki
      obtain rfl := Option.some.inj (hx.symm.trans hz)
      exact hc y hy
    · exact h.seen k z (by omega) hz y hy⟩
theorem Search.done {a : List Int} {S : List Spot} {f out : List Int} (h : Search a S f out out.length) (hf : ∀ x ∈ f, x ∈ out) : Reached a S f (sortL out) :=
  ⟨fun x hx => h.begs x (sortL_mem.1 hx), fun x hx => sortL_mem.2 (hf x hx), fun x hx y hy => sortL_mem.2 (by
      obtain ⟨k, hk⟩ := List.mem_iff_getElem?.1 (sortL_mem.1 hx)
      exact h.seen k x (List.getElem?_eq_some_iff.1 hk).1 hk y hy), fun X hX hc x hx => h.least X hX hc x (sortL_mem.1 hx), sortL_sorted _, (sortL_perm out).nodup_iff.2 h.once⟩
set_option maxRecDepth 100000 in
set_option maxHeartbeats 2000000 in
theorem reach_ok (A : Option Addr) (n c : Nat) (a : List Int) (A2 : Option Addr) (n2 c2 : Nat) (f : List Int) (w : World) (hr : Reads w w.heap.size 1 A n (a.map (.int .u64))) (hnc : n ≤ c) (ha : ∀ x ∈ a, (Lit.int .u64 x).wf = true)
    (hr2 : Reads w w.heap.size 1 A2 n2 (f.map (.int .i64))) (hn2 : n2 ≤ 1000000000000000000) (hx2 : ∀ x ∈ f, (Lit.int .i64 x).wf = true) (hE : checkE a = 0) :
    Calls Try.prog 31 #[.slice A n c, .slice A2 n2 c2] w fun e w' => Below w.heap.size w w' ∧
      ((∃ L A' c', Reached a (spotsL a) f L ∧ e = .returned (.tuple #[.slice A' L.length c', .int .i64 0]) ∧ w'.ownsRow w.heap.size 3 1 (.slice A' L.length c') L.length (L.map (.int .i64))) ∨
       ((∃ x ∈ f, x ∉ begsL (spotsL a)) ∧ e = .returned (.tuple #[.slice none 0 0, .int .i64 5]))) := by
  have hal : a.length = n := by have := hr.1; simpa using this
  have hfl : f.length = n2 := by have := hr2.1; simpa using this
  have h0 := (checkE_ok.1 hE).1
  have hn : n ≤ 256 := by have := (parse_ok h0).1; omega
  have H := Lib.hid (fun w hr hr2 => heap_ok A n c a A2 n2 c2 f w hr hnc ha hr2 hn2 hx2 hE)
  have hlb := fun x => linksAt_begs hE x
  have hmem := (parse_mem (parse_ok h0).2)
  have hbb := begsL_bounds h0
  have HSl : Hid (∀ out i, Search a (spotsL a) f out i → out.length ≤ 256) := fun out i h => h.len h0
  have HLk := Lib.hid (fun (s : Spot) (hs : s ∈ spotsL a) => links_begs hE hs)
  generalize spotsL a = S at *
  have HLB := Lib.hid hlb
  have HMEM := Lib.hid hmem
  have HBB := Lib.hid hbb
  have HFL := Lib.hid hfl
  clear hE h0 hlb hmem hbb hfl hal
  go_enter Try.func31, Try.ntmps31
  go_wp2_with fail
  refine (H.out _ hr hr2).mono ?_
  rintro e w1 ⟨hb1, hcase⟩
  rcases hcase with ⟨hall, gh, rfl, hheap⟩ | ⟨hex, rfl⟩
  · have HALL := Lib.hid hall
    have HH := Lib.hid hheap
    have hmm := @run_makeMap Try.prog
    have hA0 : AddSt w1 [] (((w1.alloc (.map #[] 0)).alloc (.cells #[.map (some w1.heap.size)] 114)).alloc (.cells #[.slice none 0 0] 24)) := by
      have e1 := (Blk.new (w1.alloc (.map #[] 0)) 114 #[.map (some w1.heap.size)]).alloc (.cells #[.slice none 0 0] 24)
      have e2 := Blk.new ((w1.alloc (.map #[] 0)).alloc (.cells #[.map (some w1.heap.size)] 114)) 24 #[.slice none 0 0]
      have e3 := ((MapIs.made w1 Try.prog 3 .i64).alloc (.cells #[.map (some w1.heap.size)] 114)).alloc (.cells #[.slice none 0 0] 24)
      simp only [World.size_alloc] at e1 e2
      exact ⟨none, 0, e1, e2, e3, World.ownsRow_nil _ _ _ _, ((below_new w1 _).alloc (by simp) _).alloc (by simp; omega) _⟩
    have HA0 := Lib.hid hA0
    have hcf := fun (x : Value) (w : World) => (plain_of (fn := Try.f55) Try.func55 (by kernel_rfl) (by kernel_rfl)) #[x, .pointer (some ⟨w1.heap.size + 1, 0, none⟩), .pointer (some ⟨w1.heap.size + 1 + 1, 0, none⟩)] w
    have hr21 := hr2.below hb1
    have hr11 := hr.below hb1
    have HX2 := Lib.hid hx2
    clear hall hheap hA0 hx2
    go_wp2
    go_loopw [27] (fun i wr => ∃ (j : Nat) (out : List Int), j ≤ n2 ∧ i = .int .i64 j ∧ Hid (AddSt w1 out wr) ∧ Hid (Search a S f out 0 ∧ ∀ x ∈ f.take j, x ∈ out)) (fun i _ => n2 - (intOf i).toNat)
    case atStart => exact ⟨0, [], Nat.zero_le _, rfl, HA0, ⟨Search.nil a S f, by intro x hx; simp at hx⟩⟩
    case round =>
      obtain ⟨j, out, hj, rfl, HA, HS⟩ := hrel
      have hbr : Below w1.heap.size w1 wr := by obtain ⟨_, _, _, _, _, _, h⟩ := HA.out; exact h
      by_cases hlt : j < n2
      · obtain ⟨ad, x, rfl, had, hx, cx⟩ := ((hr2.below hb1).below (hbr.mono hb1.size)).num hlt
        have hxf := List.mem_of_getElem? hx
        have hS2 : Search a S f (addL out x) 0 := HS.out.1.add (Nat.zero_le _) (HALL.out x hxf) (fun X hX hc => hX x hxf)
        have HS2 : Hid (Search a S f (addL out x) 0 ∧ ∀ y ∈ f.take (j + 1), y ∈ addL out x) := by
          refine ⟨hS2, fun y hy => ?_⟩
          obtain ⟨q1, q2⟩ := List.getElem?_eq_some_iff.1 hx
          rw [List.take_succ_eq_append_getElem q1, List.mem_append] at hy
          have hs := addL_sub out x
          rcases hy with hy | hy
          · exact hs.1 y (HS.out.2 y hy)
          · simp only [List.mem_cons, List.not_mem_nil, or_false] at hy
            rw [hy, q2]; exact hs.2
        have HAd := Lib.hid (add_any w1 out x wr HA.out (HX2.out x hxf) (by have := HSl.out _ _ HS.out.1; omega))
        have hj1 : j + 1 ≤ n2 := hlt
        clear hx hxf hS2 HS hbr
        go_wp2_with fail
        refine HAd.out.mono ?_
        rintro e w3 ⟨rfl, hA3⟩
        have HA3 := Lib.hid hA3
        go_wp2
        go_roundw
        case rel => exact ⟨j + 1, _, hj1, by go_num, HA3, HS2⟩
        case measure => simp [intOf]; omega
      · have HF : Hid (∀ x ∈ f, x ∈ out) := by
          have := HS.out.2
          rw [List.take_of_length_le (by rw [HFL.out]; omega)] at this
          exact this
        have HS0 := Lib.hid HS.out.1
        have g0 : decide (j < n2) = false := decide_eq_false hlt
        obtain ⟨wo, hwo⟩ : ∃ x, x = wr := ⟨wr, rfl⟩
        subst hwo
        clear HS hbr
        go_wp2
        go_loopw [13] (fun i wr => ∃ (j : Nat) (out : List Int), j ≤ out.length ∧ i = .int .i64 j ∧ Hid (AddSt w1 out wr) ∧ Hid (Search a S f out j ∧ ∀ x ∈ f, x ∈ out)) (fun i _ => 256 - (intOf i).toNat)
        case atStart => exact ⟨0, out, Nat.zero_le _, rfl, HA, ⟨HS0.out, HF.out⟩⟩
        case round =>
          obtain ⟨j, out, hj, rfl, HA, HS⟩ := hrel
          obtain ⟨Ao, co, e1, e2, e3, e4, e5⟩ := HA.out
          have hlen := HSl.out _ _ HS.out.1
          obtain ⟨k, hk⟩ : ∃ k, k = out.length := ⟨_, rfl⟩
          have d0 := e2.cell 0
          simp only [List.getElem?_toArray, List.getElem?_cons_zero] at d0
          rw [← hk] at d0 e2 e4 hlen hj
          have HK := Lib.hid hk
          by_cases hlt : j < k
          · obtain ⟨ad, x, rfl, had, hx, cx⟩ := (Reads.of_own e4).num hlt
            have hxb := HS.out.1.begs x (List.mem_of_getElem? hx)
            obtain ⟨s, hs⟩ := begsL_iff.1 hxb
            obtain ⟨hsS, -, hsl⟩ := spotAt_some hs
            have hlk : linksAt a S x = linksL a s := by unfold linksAt; rw [hs]
            have hok := (HMEM.out s hsS).1
            obtain ⟨b, Ah, kh, ch, g1, g2, g3, g4, g5⟩ := HH.out.below e5
            have hAds := HS.out.1.adds (by omega) hx (HLB.out x)
            rw [hlk] at hAds
            have HAds := Lib.hid hAds
            have hEa := each_any 55 (.pointer (some ⟨w1.heap.size + 1, 0, none⟩)) (.pointer (some ⟨w1.heap.size + 1 + 1, 0, none⟩)) gh b w1.heap.size A Ah n c kh ch a S s wr g1 g4 (by rw [hsl]; exact hs) hok ((hr11.below (e5.mono hb1.size)).more hb1.size) hnc hn (plain_of (fn := Try.f55) Try.func55 (by kernel_rfl) (by kernel_rfl))
              (fun v hv => by
                by_cases hv0 : v = 0
                · exact .inl hv0
                · have h1 : v - 1 ∈ linksL a s := List.mem_map.2 ⟨v, List.mem_filter.2 ⟨hv, by simpa using hv0⟩, rfl⟩
                  have := HBB.out _ (HLk.out s hsS _ h1)
                  exact .inr (by omega))
              (fun l w' => (∀ y ∈ l, y ∈ linksL a s) ∧ AddSt w1 (l.foldl addL out) w')
              ⟨by simp, HA.out⟩ (fun l w' q h => ⟨h.1, h.2.drewN q⟩)
              (fun l w' h => by obtain ⟨-, _, _, _, _, _, _, h5⟩ := h; exact (hr11.below (h5.mono hb1.size)).more hb1.size)
              (fun l y w' h hy => by
                have h1 := HBB.out _ (HLk.out s hsS _ hy)
                have h2 := (HAds.out l h.1).1
                refine (add_any w1 (l.foldl addL out) y w' h.2 (by simp [Lit.wf, IntKind.min, IntKind.max, IntKind.signed, IntKind.bits]; omega) (by have := HSl.out _ _ h2; omega)).mono ?_
                rintro e w'' ⟨rfl, h3⟩
                refine ⟨rfl, fun z hz => ?_, by rw [List.foldl_append]; exact h3⟩
                rcases List.mem_append.1 hz with hz | hz
                · exact h.1 z hz
                · simp only [List.mem_cons, List.not_mem_nil, or_false] at hz
                  subst hz; exact hy)
            rw [hsl] at hEa
            have HEa := Lib.hid hEa
            obtain ⟨t1, t2, t3, t4, t5⟩ := hAds (linksL a s) (fun y hy => hy)
            have HS2 : Hid (Search a S f ((linksL a s).foldl addL out) (j + 1) ∧ ∀ y ∈ f, y ∈ (linksL a s).foldl addL out) := ⟨t1.next t5 (by rw [hlk]; exact t4), fun y hy => t3 y (HS.out.2 y hy)⟩
            have hj1 : j + 1 ≤ ((linksL a s).foldl addL out).length := by omega
            have HJ1 := Lib.hid hj1
            clear hx hxb hs hlk hok g1 g4 g5 hAds hEa t1 t2 t3 t4 t5 HS e1 e2 e3 e4 e5 hj1
            go_wp2_with fail
            refine HEa.out.mono ?_
            rintro e w5 ⟨rfl, -, hA5⟩
            have HA5 := Lib.hid hA5
            go_wp2
            go_roundw
            case rel => exact ⟨j + 1, _, HJ1.out, by go_num, HA5, HS2⟩
            case measure => simp [intOf]; omega
          · have hjk : j = k := by omega
            have hso := sort_int _ Ao k co out wr e4 (by omega)
            have HSo := Lib.hid hso
            have HRe : Hid (Reached a S f (sortL out)) := by
              have h1 := HS.out.1
              rw [hjk, hk] at h1
              exact h1.done HS.out.2
            have g2 : decide (j < k) = false := decide_eq_false hlt
            have HB5 := Lib.hid e5
            have hlw := e2.lt
            have HE4 := Lib.hid e4
            have HE2 := Lib.hid e2
            clear hso hjk HS e1 e3 HA hk e5 e4 e2
            go_wp2_with fail
            refine HSo.out.mono ?_
            rintro e w5 ⟨rfl, hown5, hg5⟩
            have e6 := HE2.out.grown hg5 (fun h => own_off HE4.out (by omega) h.symm)
            have p0 := e6.cell 0
            simp only [List.getElem?_toArray, List.getElem?_cons_zero] at p0
            have hbz := HB5.out.grown hg5 HB5.out.size (fun g hg => by have := (HE4.out.lt g hg).1; omega)
            have HO5 := Lib.hid (own_mono (base := w.heap.size) hown5 (by have := hb1.size; omega))
            have HL : Hid (k = (sortL out).length) := by show _ = _; rw [sortL_length]; exact HK.out
            clear hown5 hg5 e6
            go_wp2
            go_ret2
            refine ⟨below_step hb1 hbz, .inl ⟨sortL out, Ao, co, HRe.out, ?_, ?_⟩⟩
            · rw [← HL.out]; rfl
            · rw [← HL.out]; exact HO5.out
  · have HEX := Lib.hid hex
    clear hex
    go_wp2
    go_ret2
    exact ⟨hb1, .inr ⟨HEX.out, rfl⟩⟩
end Go.Proofs.Ytbmkbnalembbjaa

namespace Go.Proofs.Ytbmkbnalembbjaa
open Go.RowKit
def AddStT (w0 : World) (out : List Int) (w : World) : Prop :=
  ∃ Ao co, Blk w (w0.heap.size + 1) 114 #[.map (some w0.heap.size)] ∧ Blk w (w0.heap.size + 1 + 1) 24 #[.slice Ao out.length co] ∧ MapIs w Try.prog 3 .i64 w0.heap.size out.length (seenF out) ∧
    OwnT w (w0.heap.size + 1 + 1 + 1) 3 1 isN (.slice Ao out.length co) out.length (out.map (.int .i64)) ∧ Below w0.heap.size w0 w
theorem AddStT.drewN {w0 w : World} {out : List Int} (h : AddStT w0 out w) (q : Nat) : AddStT w0 out (w.drewN q) := by
  obtain ⟨Ao, co, h1, h2, h3, h4, h5⟩ := h
  exact ⟨Ao, co, h1.drewN q, h2.drewN q, h3.drewN q, own_belowT h4 (below_drewN (Below.refl _ _) q), below_drewN h5 q⟩
set_option maxRecDepth 100000 in
set_option maxHeartbeats 1000000 in
theorem addT_any (w0 : World) (out : List Int) (x : Int) (w : World) (h : AddStT w0 out w) (hx : (Lit.int .i64 x).wf = true) (hl : out.length ≤ 100000) :
    Calls Try.prog 55 #[.int .i64 x, .pointer (some ⟨w0.heap.size + 1, 0, none⟩), .pointer (some ⟨w0.heap.size + 1 + 1, 0, none⟩)] w fun e w' => e = .returned (.tuple #[]) ∧ AddStT w0 (addL out x) w' := by
  obtain ⟨Ao, co, h1, h2, h3, h4, h5⟩ := h
  have hlook := h3.look (k := 3) (t := 114) Try.underlying3 Try.underlying114 (zero_bool _) hx
  have k0 := h1.cell 0
  simp only [List.getElem?_toArray, List.getElem?_cons_zero] at k0
  by_cases hm : x ∈ out
  · have e1 : seenF out x = some (.bool true) := by unfold seenF; rw [if_pos hm]
    have e2 : addL out x = out := by unfold addL; rw [if_pos hm]
    rw [e1] at hlook
    rw [e2]
    have hlook2 : (Instr.lookup 114 (.map (some w0.heap.size)) (.int .i64 x) false).run Try.prog w = .ok (.bool true) w := hlook
    have HS : Hid (AddStT w0 out w) := ⟨Ao, co, h1, h2, h3, h4, h5⟩
    clear hlook e1 e2 hm h1 h2 h3 h4 h5
    go_enter Try.func55, Try.ntmps55
    go_wp2
    go_end0
    exact ⟨rfl, HS.out⟩
  · have e1 : seenF out x = none := by unfold seenF; rw [if_neg hm]
    have e2 : addL out x = out ++ [x] := by unfold addL; rw [if_neg hm]
    rw [e1] at hlook
    rw [e2]
    have hlook2 : (Instr.lookup 114 (.map (some w0.heap.size)) (.int .i64 x) false).run Try.prog w = .ok (.bool false) w := hlook
    obtain ⟨w1, hupd, hM1, hg1⟩ := h3.store (k := 3) (t := 114) Try.underlying3 Try.underlying114 (by unfold maxLen; omega) (x := x) hx (.bool true)
    rw [← seenF_snoc] at hM1
    have hwl := h2.lt
    have hB1 := h1.grown hg1 (fun h => by injection h with h; omega)
    have hD1 := h2.grown hg1 (fun h => by injection h with h; omega)
    have hO1 := own_grownT h4 hg1 (fun g hg h => by injection h with h; have := (h4.lt g hg).1; omega)
    have hb1 := h5.grown hg1 h5.size (fun g hg => by injection hg with hg; omega)
    have hw1 : w0.heap.size + 1 + 1 < w1.heap.size := hD1.lt
    have hB2 := hB1.alloc (.cells #[.int .i64 x] 3)
    have hD2 := hD1.alloc (.cells #[.int .i64 x] 3)
    have hM2 := hM1.alloc (.cells #[.int .i64 x] 3)
    have hO2 := hO1.alloc (.cells #[.int .i64 x] 3)
    have hb2 := hb1.alloc hb1.size (.cells #[.int .i64 x] 3)
    have d0 := hD1.cell 0
    have q0 := hB1.cell 0
    simp only [List.getElem?_toArray, List.getElem?_cons_zero] at d0 q0
    obtain ⟨i0, hi, hz0, hz1, hz2⟩ := info_parts info_int
    obtain ⟨k, hk⟩ : ∃ k, k = out.length := ⟨_, rfl⟩
    rw [← hk] at hO2 hD2 hM2 d0 hl
    have HK := Lib.hid hk
    have HM2 := Lib.hid hM2
    have HB2 := Lib.hid hB2
    have HD2 := Lib.hid hD2
    clear hlook e1 e2 hm h1 h2 h3 h4 h5 hM1 hB1 hD1 hO1 hb1 hB2 hD2 hM2 hg1 hk hwl
    go_enter Try.func55, Try.ntmps55
    go_wp2_with (at_builtin; refine wpList_append_T _ rfl (.tmp 10) (.tmp 12) 24 rfl (w0.heap.size + 1 + 1 + 1) 3 i0 (.int .i64 0) 1 8 Try.underlying24 hi hz0 hz1 hz2 rfl (by decide) isN_zero (.slice Ao k co) k _ rfl hO2 (w1.heap.size + 1) (some ⟨w1.heap.size, 0, none⟩) 1 1 [.int .i64 x] rfl (reads_new w1 [.int .i64 x] 3 1 1 rfl) (by simp [Value.oneCell']) (isN_one _) (by unfold maxLen; omega) (by omega) (by simp; omega) ?_; rintro v' w3 hown3 hgr - -; obtain ⟨A5, c5, rfl⟩ := own_sliceT hown3; have hD3 := HD2.out.grown hgr (fun h => own_offT hO2 (by omega) h.symm); have p0 := hD3.cell 0; have pf := hD3.frozen 0; simp only [List.getElem?_toArray, List.getElem?_cons_zero] at p0)
    go_end0
    have hB3 := HB2.out.grown hgr (fun h => own_offT hO2 (by omega) h.symm)
    have hM3 := HM2.out.kept hgr (fun h => own_offT hO2 (by omega) h.symm)
    have hb3 := hb2.grown hgr hb2.size (fun g hg => by have := (hO2.lt g hg).1; omega)
    have hD4 : Blk (w3.setCell ⟨w0.heap.size + 1 + 1, 0, none⟩ (.slice A5 (k + 1) c5)) (w0.heap.size + 1 + 1) 24 #[.slice A5 (k + 1) c5] := by simpa using hD3.set_ 0 (.slice A5 (k + 1) c5)
    refine ⟨rfl, A5, c5, hB3.far (by dsimp only; omega) _, ?_, ?_, ?_, hb3.setCell (p := ⟨w0.heap.size + 1 + 1, 0, none⟩) (by dsimp only; omega) _⟩
    · rw [List.length_append, List.length_singleton, ← HK.out]
      exact hD4
    · rw [List.length_append, List.length_singleton, ← HK.out]
      exact hM3.setCell (by dsimp only; omega) _
    · rw [List.length_append, List.length_singleton, ← HK.out, List.map_append]
      exact own_apartT hown3 (own_offT hown3 (by dsimp only; omega)) _
set_option maxRecDepth 100000 in
set_option maxHeartbeats 2000000 in
theorem reachT_ok (A : Option Addr) (n c : Nat) (a : List Int) (A2 : Option Addr) (n2 c2 : Nat) (f : List Int) (w : World) (hr : Reads w w.heap.size 1 A n (a.map (.int .u64))) (hnc : n ≤ c) (ha : ∀ x ∈ a, (Lit.int .u64 x).wf = true)
    (hr2 : Reads w w.heap.size 1 A2 n2 (f.map (.int .i64))) (hn2 : n2 ≤ 1000000000000000000) (hx2 : ∀ x ∈ f, (Lit.int .i64 x).wf = true) (hE : checkE a = 0) :
    Calls Try.prog 31 #[.slice A n c, .slice A2 n2 c2] w fun e w' => Below w.heap.size w w' ∧
      ((∃ L A' c', Reached a (spotsL a) f L ∧ e = .returned (.tuple #[.slice A' L.length c', .int .i64 0]) ∧ OwnT w' w.heap.size 3 1 isN (.slice A' L.length c') L.length (L.map (.int .i64))) ∨
       ((∃ x ∈ f, x ∉ begsL (spotsL a)) ∧ e = .returned (.tuple #[.slice none 0 0, .int .i64 5]))) := by
  have hal : a.length = n := by have := hr.1; simpa using this
  have hfl : f.length = n2 := by have := hr2.1; simpa using this
  have h0 := (checkE_ok.1 hE).1
  have hn : n ≤ 256 := by have := (parse_ok h0).1; omega
  have H := Lib.hid (fun w hr hr2 => heap_ok A n c a A2 n2 c2 f w hr hnc ha hr2 hn2 hx2 hE)
  have hlb := fun x => linksAt_begs hE x
  have hmem := (parse_mem (parse_ok h0).2)
  have hbb := begsL_bounds h0
  have HSl : Hid (∀ out i, Search a (spotsL a) f out i → out.length ≤ 256) := fun out i h => h.len h0
  have HLk := Lib.hid (fun (s : Spot) (hs : s ∈ spotsL a) => links_begs hE hs)
  generalize spotsL a = S at *
  have HLB := Lib.hid hlb
  have HMEM := Lib.hid hmem
  have HBB := Lib.hid hbb
  have HFL := Lib.hid hfl
  clear hE h0 hlb hmem hbb hfl hal
  go_enter Try.func31, Try.ntmps31
  go_wp2_with fail
  refine (H.out _ hr hr2).mono ?_
  rintro e w1 ⟨hb1, hcase⟩
  rcases hcase with ⟨hall, gh, rfl, hheap⟩ | ⟨hex, rfl⟩
  · have HALL := Lib.hid hall
    have HH := Lib.hid hheap
    have hmm := @run_makeMap Try.prog
    have hA0 : AddStT w1 [] (((w1.alloc (.map #[] 0)).alloc (.cells #[.map (some w1.heap.size)] 114)).alloc (.cells #[.slice none 0 0] 24)) := by
      have e1 := (Blk.new (w1.alloc (.map #[] 0)) 114 #[.map (some w1.heap.size)]).alloc (.cells #[.slice none 0 0] 24)
      have e2 := Blk.new ((w1.alloc (.map #[] 0)).alloc (.cells #[.map (some w1.heap.size)] 114)) 24 #[.slice none 0 0]
      have e3 := ((MapIs.made w1 Try.prog 3 .i64).alloc (.cells #[.map (some w1.heap.size)] 114)).alloc (.cells #[.slice none 0 0] 24)
      simp only [World.size_alloc] at e1 e2
      exact ⟨none, 0, e1, e2, e3, OwnT.nil _ _ _ _ _, ((below_new w1 _).alloc (by simp) _).alloc (by simp; omega) _⟩
    have HA0 := Lib.hid hA0
    have hcf := fun (x : Value) (w : World) => (plain_of (fn := Try.f55) Try.func55 (by kernel_rfl) (by kernel_rfl)) #[x, .pointer (some ⟨w1.heap.size + 1, 0, none⟩), .pointer (some ⟨w1.heap.size + 1 + 1, 0, none⟩)] w
    have hr21 := hr2.below hb1
    have hr11 := hr.below hb1
    have HX2 := Lib.hid hx2
    clear hall hheap hA0 hx2
    go_wp2
    go_loopw [27] (fun i wr => ∃ (j : Nat) (out : List Int), j ≤ n2 ∧ i = .int .i64 j ∧ Hid (AddStT w1 out wr) ∧ Hid (Search a S f out 0 ∧ ∀ x ∈ f.take j, x ∈ out)) (fun i _ => n2 - (intOf i).toNat)
    case atStart => exact ⟨0, [], Nat.zero_le _, rfl, HA0, ⟨Search.nil a S f, by intro x hx; simp at hx⟩⟩
    case round =>
      obtain ⟨j, out, hj, rfl, HA, HS⟩ := hrel
      have hbr : Below w1.heap.size w1 wr := by obtain ⟨_, _, _, _, _, _, h⟩ := HA.out; exact h
      by_cases hlt : j < n2
      · obtain ⟨ad, x, rfl, had, hx, cx⟩ := ((hr2.below hb1).below (hbr.mono hb1.size)).num hlt
        have hxf := List.mem_of_getElem? hx
        have hS2 : Search a S f (addL out x) 0 := HS.out.1.add (Nat.zero_le _) (HALL.out x hxf) (fun X hX hc => hX x hxf)
        have HS2 : Hid (Search a S f (addL out x) 0 ∧ ∀ y ∈ f.take (j + 1), y ∈ addL out x) := by
          refine ⟨hS2, fun y hy => ?_⟩
          obtain ⟨q1, q2⟩ := List.getElem?_eq_some_iff.1 hx
          rw [List.take_succ_eq_append_getElem q1, List.mem_append] at hy
          have hs := addL_sub out x
          rcases hy with hy | hy
          · exact hs.1 y (HS.out.2 y hy)
          · simp only [List.mem_cons, List.not_mem_nil, or_false] at hy
            rw [hy, q2]; exact hs.2
        have HAd := Lib.hid (addT_any w1 out x wr HA.out (HX2.out x hxf) (by have := HSl.out _ _ HS.out.1; omega))
        have hj1 : j + 1 ≤ n2 := hlt
        clear hx hxf hS2 HS hbr
        go_wp2_with fail
        refine HAd.out.mono ?_
        rintro e w3 ⟨rfl, hA3⟩
        have HA3 := Lib.hid hA3
        go_wp2
        go_roundw
        case rel => exact ⟨j + 1, _, hj1, by go_num, HA3, HS2⟩
        case measure => simp [intOf]; omega
      · have HF : Hid (∀ x ∈ f, x ∈ out) := by
          have := HS.out.2
          rw [List.take_of_length_le (by rw [HFL.out]; omega)] at this
          exact this
        have HS0 := Lib.hid HS.out.1
        have g0 : decide (j < n2) = false := decide_eq_false hlt
        obtain ⟨wo, hwo⟩ : ∃ x, x = wr := ⟨wr, rfl⟩
        subst hwo
        clear HS hbr
        go_wp2
        go_loopw [13] (fun i wr => ∃ (j : Nat) (out : List Int), j ≤ out.length ∧ i = .int .i64 j ∧ Hid (AddStT w1 out wr) ∧ Hid (Search a S f out j ∧ ∀ x ∈ f, x ∈ out)) (fun i _ => 256 - (intOf i).toNat)
        case atStart => exact ⟨0, out, Nat.zero_le _, rfl, HA, ⟨HS0.out, HF.out⟩⟩
        case round =>
          obtain ⟨j, out, hj, rfl, HA, HS⟩ := hrel
          obtain ⟨Ao, co, e1, e2, e3, e4, e5⟩ := HA.out
          have hlen := HSl.out _ _ HS.out.1
          obtain ⟨k, hk⟩ : ∃ k, k = out.length := ⟨_, rfl⟩
          have d0 := e2.cell 0
          simp only [List.getElem?_toArray, List.getElem?_cons_zero] at d0
          rw [← hk] at d0 e2 e4 hlen hj
          have HK := Lib.hid hk
          by_cases hlt : j < k
          · obtain ⟨ad, x, rfl, had, hx, cx⟩ := (reads_ofT e4).num hlt
            have hxb := HS.out.1.begs x (List.mem_of_getElem? hx)
            obtain ⟨s, hs⟩ := begsL_iff.1 hxb
            obtain ⟨hsS, -, hsl⟩ := spotAt_some hs
            have hlk : linksAt a S x = linksL a s := by unfold linksAt; rw [hs]
            have hok := (HMEM.out s hsS).1
            obtain ⟨b, Ah, kh, ch, g1, g2, g3, g4, g5⟩ := HH.out.below e5
            have hAds := HS.out.1.adds (by omega) hx (HLB.out x)
            rw [hlk] at hAds
            have HAds := Lib.hid hAds
            have hEa := each_any 55 (.pointer (some ⟨w1.heap.size + 1, 0, none⟩)) (.pointer (some ⟨w1.heap.size + 1 + 1, 0, none⟩)) gh b w1.heap.size A Ah n c kh ch a S s wr g1 g4 (by rw [hsl]; exact hs) hok ((hr11.below (e5.mono hb1.size)).more hb1.size) hnc hn (plain_of (fn := Try.f55) Try.func55 (by kernel_rfl) (by kernel_rfl))
              (fun v hv => by
                by_cases hv0 : v = 0
                · exact .inl hv0
                · have h1 : v - 1 ∈ linksL a s := List.mem_map.2 ⟨v, List.mem_filter.2 ⟨hv, by simpa using hv0⟩, rfl⟩
                  have := HBB.out _ (HLk.out s hsS _ h1)
                  exact .inr (by omega))
              (fun l w' => (∀ y ∈ l, y ∈ linksL a s) ∧ AddStT w1 (l.foldl addL out) w')
              ⟨by simp, HA.out⟩ (fun l w' q h => ⟨h.1, h.2.drewN q⟩)
              (fun l w' h => by obtain ⟨-, _, _, _, _, _, _, h5⟩ := h; exact (hr11.below (h5.mono hb1.size)).more hb1.size)
              (fun l y w' h hy => by
                have h1 := HBB.out _ (HLk.out s hsS _ hy)
                have h2 := (HAds.out l h.1).1
                refine (addT_any w1 (l.foldl addL out) y w' h.2 (by simp [Lit.wf, IntKind.min, IntKind.max, IntKind.signed, IntKind.bits]; omega) (by have := HSl.out _ _ h2; omega)).mono ?_
                rintro e w'' ⟨rfl, h3⟩
                refine ⟨rfl, fun z hz => ?_, by rw [List.foldl_append]; exact h3⟩
                rcases List.mem_append.1 hz with hz | hz
                · exact h.1 z hz
                · simp only [List.mem_cons, List.not_mem_nil, or_false] at hz
                  subst hz; exact hy)
            rw [hsl] at hEa
            have HEa := Lib.hid hEa
            obtain ⟨t1, t2, t3, t4, t5⟩ := hAds (linksL a s) (fun y hy => hy)
            have HS2 : Hid (Search a S f ((linksL a s).foldl addL out) (j + 1) ∧ ∀ y ∈ f, y ∈ (linksL a s).foldl addL out) := ⟨t1.next t5 (by rw [hlk]; exact t4), fun y hy => t3 y (HS.out.2 y hy)⟩
            have hj1 : j + 1 ≤ ((linksL a s).foldl addL out).length := by omega
            have HJ1 := Lib.hid hj1
            clear hx hxb hs hlk hok g1 g4 g5 hAds hEa t1 t2 t3 t4 t5 HS e1 e2 e3 e4 e5 hj1
            go_wp2_with fail
            refine HEa.out.mono ?_
            rintro e w5 ⟨rfl, -, hA5⟩
            have HA5 := Lib.hid hA5
            go_wp2
            go_roundw
            case rel => exact ⟨j + 1, _, HJ1.out, by go_num, HA5, HS2⟩
            case measure => simp [intOf]; omega
          · have hjk : j = k := by omega
            have hso := sort_intN _ Ao k co out wr e4 (by omega)
            have HSo := Lib.hid hso
            have HRe : Hid (Reached a S f (sortL out)) := by
              have h1 := HS.out.1
              rw [hjk, hk] at h1
              exact h1.done HS.out.2
            have g2 : decide (j < k) = false := decide_eq_false hlt
            have HB5 := Lib.hid e5
            have hlw := e2.lt
            have HE4 := Lib.hid e4
            have HE2 := Lib.hid e2
            clear hso hjk HS e1 e3 HA hk e5 e4 e2
            go_wp2_with fail
            refine HSo.out.mono ?_
            rintro e w5 ⟨rfl, hown5, hg5⟩
            have e6 := HE2.out.grown hg5 (fun h => own_offT HE4.out (by omega) h.symm)
            have p0 := e6.cell 0
            simp only [List.getElem?_toArray, List.getElem?_cons_zero] at p0
            have hbz := HB5.out.grown hg5 HB5.out.size (fun g hg => by have := (HE4.out.lt g hg).1; omega)
            have HO5 := Lib.hid (own_monoT (base := w.heap.size) hown5 (by have := hb1.size; omega))
            have HL : Hid (k = (sortL out).length) := by show _ = _; rw [sortL_length]; exact HK.out
            clear hown5 hg5 e6
            go_wp2
            go_ret2
            refine ⟨below_step hb1 hbz, .inl ⟨sortL out, Ao, co, HRe.out, ?_, ?_⟩⟩
            · rw [← HL.out]; rfl
            · rw [← HL.out]; exact HO5.out
  · have HEX := Lib.hid hex
    clear hex
    go_wp2
    go_ret2
    exact ⟨hb1, .inr ⟨HEX.out, rfl⟩⟩
end Go.Proofs.Ytbmkbnalembbjaa

namespace Go.Proofs.Ytbmkbnalembbjaa
open Go.RowKit
def refIx (l : List Spot) (a : List Int) (s : Spot) : List Int := (refsOf a s).map fun v => (placeF l v).getD 0
theorem placeV_getD (l : List Spot) (v : Int) : (placeV l v).getD (.int .i64 0) = .int .i64 ((placeF l v).getD 0) := by
  unfold placeV
  cases placeF l v <;> rfl
set_option maxRecDepth 100000 in
set_option maxHeartbeats 1000000 in
theorem object_any (A : Option Addr) (n c b : Nat) (a : List Int) (l : List Spot) (s : Spot) (w : World) (hr : Reads w w.heap.size 1 A n (a.map (.int .u64))) (hc : n ≤ c) (hn : n ≤ 256) (hs : SpotOk a s)
    (ha : ∀ x ∈ a, (Lit.int .u64 x).wf = true) (hM : MapIs w Try.prog 37 .u64 b 300 (placeV l)) :
    Calls Try.prog 77 #[.slice A n c, .agg #[.int .i64 s.loc, .int .i64 s.r, .int .i64 s.b, .int .i64 s.t, .bool s.f], .map (some b)] w fun e w' => Below w.heap.size w w' ∧ ∃ A1 c1 A2 c2,
      e = .returned (.agg #[.int .i64 s.t, .slice A1 s.r.toNat c1, .slice A2 s.b.toNat c2, .bool s.f]) ∧ w'.ownsRow w.heap.size 3 1 (.slice A1 s.r.toNat c1) s.r.toNat ((refIx l a s).map (.int .i64)) ∧
      w'.ownsRow w.heap.size 37 1 (.slice A2 s.b.toNat c2) s.b.toNat ((bodyOf a s).map (.int .u64)) := by
  have hal : a.length = n := by have := hr.1; simpa using this
  have HR := Lib.hid (fun w B hr hB => refs_any A n c B a s w hr hB hc hn hs)
  have HF := Lib.hid (refsOf_length hs)
  have HG := Lib.hid (bodyOf_length hs)
  have HI : Hid (refIx l a s = (refsOf a s).map fun v => (placeF l v).getD 0) := rfl
  have l0 := hs.loc0
  have r0 := hs.r0
  have b0 := hs.b0
  have ft := hs.fits
  have HB : Hid (bodyOf a s = (a.drop (s.loc.toNat + 1 + s.r.toNat)).take s.b.toNat) := rfl
  unfold Spot.long at ft
  have hblt := hM.lt
  have HSub : Hid (∀ v ∈ refsOf a s, v ∈ a) := fun v hv => by
    unfold refsOf at hv
    exact List.mem_of_mem_drop (List.mem_of_mem_take hv)
  clear hs
  generalize refsOf a s = rs at *
  generalize bodyOf a s = bs at *
  generalize refIx l a s = ix at *
  obtain ⟨loc, r, bd, t, f⟩ := s
  dsimp only at *
  obtain ⟨i, rfl⟩ := Int.eq_ofNat_of_zero_le l0
  obtain ⟨q, rfl⟩ := Int.eq_ofNat_of_zero_le r0
  obtain ⟨k, rfl⟩ := Int.eq_ofNat_of_zero_le b0
  simp only [Int.toNat_natCast] at *
  rw [hal] at ft
  have HL := Lib.hid hal
  clear hal l0 r0 b0
  obtain ⟨i0, hi, hz0, hz1, hz2⟩ := info_parts (show (Try.prog.info? 3).map (fun i => (i.zero, i.size, i.bytes)) = some (some (.int .i64 0), 1, 8) by kernel_rfl)
  go_enter Try.func77, Try.ntmps77
  go_wp2_with fail
  have hbw := ((below_new w (.cells #[.int .i64 i, .int .i64 q, .int .i64 k, .int .i64 t, .bool f] 146)).alloc (by simp) (.cells #[.int .i64 0, .slice none 0 0, .slice none 0 0, .bool false] 104)).alloc (by simp; omega) (.cells #[.int .i64 t, .slice none 0 0, .slice none 0 0, .bool f] 104)
  have B0 := ((Blk.new w 146 #[.int .i64 i, .int .i64 q, .int .i64 k, .int .i64 t, .bool f]).alloc (.cells #[.int .i64 0, .slice none 0 0, .slice none 0 0, .bool false] 104)).alloc (.cells #[.int .i64 t, .slice none 0 0, .slice none 0 0, .bool f] 104)
  have B1 := (Blk.new (w.alloc (.cells #[.int .i64 i, .int .i64 q, .int .i64 k, .int .i64 t, .bool f] 146)) 104 #[.int .i64 0, .slice none 0 0, .slice none 0 0, .bool false]).alloc (.cells #[.int .i64 t, .slice none 0 0, .slice none 0 0, .bool f] 104)
  have B2 := Blk.new ((w.alloc (.cells #[.int .i64 i, .int .i64 q, .int .i64 k, .int .i64 t, .bool f] 146)).alloc (.cells #[.int .i64 0, .slice none 0 0, .slice none 0 0, .bool false] 104)) 104 #[.int .i64 t, .slice none 0 0, .slice none 0 0, .bool f]
  simp only [World.size_alloc] at B1 B2
  refine (HR.out _ w.heap.size (hr.below hbw) (by simp; omega)).mono ?_
  rintro e w3 ⟨hb3, A3, c3, rfl, hc3, hrr⟩
  have hbw3 := hbw.trans (hb3.mono (by simp; omega))
  have hM3 := hM.below hbw3 hblt
  have C0 := B0.below hb3 (by simp; omega)
  have C1 := B1.below hb3 (by simp)
  have C2 := B2.below hb3 (by simp)
  clear B0 B1 B2
  have hsz : w.heap.size + 3 ≤ w3.heap.size := by have := hb3.size; simp at this; omega
  have hrrw : Reads w w.heap.size 1 A3 q (rs.map (.int .u64)) := hrr.keep fun p hp => (hbw3.cell hp).symm
  clear hb3 hbw hM3 hrr
  go_wp2
  go_loopw [9, 22] (fun _ x wr => ∃ (p : Nat) (A1 : Option Addr) (c1 : Nat), p ≤ q ∧ x = .int .i64 p ∧ Below w.heap.size w wr ∧ w.heap.size + 3 ≤ wr.heap.size ∧ Blk wr w.heap.size 146 #[.int .i64 i, .int .i64 q, .int .i64 k, .int .i64 t, .bool f] ∧ Blk wr (w.heap.size + 1) 104 #[.int .i64 0, .slice none 0 0, .slice none 0 0, .bool false] ∧
    Blk wr (w.heap.size + 1 + 1) 104 #[.int .i64 t, .slice A1 p c1, .slice none 0 0, .bool f] ∧ wr.ownsRow (w.heap.size + 3) 3 1 (.slice A1 p c1) p ((ix.take p).map (.int .i64))) (fun _ x _ => q - (intOf x).toNat)
  case atStart => exact ⟨0, none, 0, Nat.zero_le _, rfl, hbw3, hsz, C0, C1, C2, by simpa using World.ownsRow_nil _ _ _ _⟩
  case round =>
    clear C0 C1 C2 hsz
    obtain ⟨p, A1, c1, hp, rfl, hb, hsz, B0, B1, B2, hown⟩ := hrel
    by_cases hlt : p < q
    · obtain ⟨ad3, v, rfl, had3, hv, hcv⟩ := (hrrw.below hb).num hlt
      have hvw := ha v (HSub.out v (List.mem_of_getElem? hv))
      have hlook := (hM.below hb hblt).look Try.underlying37 Try.underlying141 (zero_int _) hvw
      rw [placeV_getD] at hlook
      have HT : Hid (ix.take (p + 1) = ix.take p ++ [(placeF l v).getD 0]) := by
        show _ = _
        obtain ⟨h1, rfl⟩ := List.getElem?_eq_some_iff.1 hv
        rw [HI.out, ← List.map_take, ← List.map_take, List.take_succ_eq_append_getElem h1, List.map_append]
        rfl
      generalize (placeF l v).getD 0 = z at *
      clear hv hvw
      have k1 := B2.cell 1
      simp only [List.getElem?_toArray, List.getElem?_cons_zero, List.getElem?_cons_succ] at k1
      have hown2 := hown.alloc (.cells #[.int .i64 z] 3)
      have B0' := B0.alloc (.cells #[.int .i64 z] 3)
      have B1' := B1.alloc (.cells #[.int .i64 z] 3)
      have B2' := B2.alloc (.cells #[.int .i64 z] 3)
      have hb2 := hb.alloc hb.size (.cells #[.int .i64 z] 3)
      have hnew := reads_new wr [.int .i64 z] 3 1 1 rfl
      have hge : ∀ g, (Value.slice A1 p c1).ownBlock = some g → w.heap.size + 3 ≤ g := fun g hg => own_ge hown hg
      have HGe := Lib.hid hge
      clear hown B0 B1 B2 hb hge
      go_wp2_with (at_builtin; refine wpList_append_any _ rfl (.tmp 27) (.tmp 31) 24 rfl (w.heap.size + 3) 3 i0 (.int .i64 0) 1 8 Try.underlying24 hi hz0 hz1 hz2 rfl (by decide) (.slice A1 p c1) p _ rfl hown2 (wr.heap.size + 1) (some ⟨wr.heap.size, 0, none⟩) 1 1 [.int .i64 z] rfl hnew (by simp [Value.oneCell']) (by simp [maxLen]; omega) (by omega) (by have := hsz; simp; omega) ?_; rintro v' w5 hown5 hgr hbl -; obtain ⟨A5, c5, rfl⟩ := own_slice hown5; have B0'' := B0'.grown hgr (fun e => by have := HGe.out _ e.symm; omega); have B1'' := B1'.grown hgr (fun e => by have := HGe.out _ e.symm; omega); have B2'' := B2'.grown hgr (fun e => by have := HGe.out _ e.symm; omega); have k2 := B2''.cell 1; simp only [List.getElem?_toArray, List.getElem?_cons_zero, List.getElem?_cons_succ] at k2; have f2 := B2''.frozen 1)
      have hb3 := hb2.grown hgr hb2.size (fun g hg => by have := HGe.out g hg; omega)
      have hsz5 := hgr.size
      simp only [World.size_alloc] at hsz5
      go_roundw
      case rel => exact ⟨p + 1, A5, c5, by omega, by go_num, hb3.setCell (p := ⟨w.heap.size + 1 + 1, 1, none⟩) (by simp; omega) _, by simp [World.setCell]; omega, B0''.far (p := ⟨w.heap.size + 1 + 1, 1, none⟩) (by simp; omega) _, B1''.far (p := ⟨w.heap.size + 1 + 1, 1, none⟩) (by simp) _,
        B2''.set_ 1 _, by rw [HT.out, List.map_append]; exact own_far hown5 (p := ⟨w.heap.size + 1 + 1, 1, none⟩) (by simp) _⟩
      case measure => simp [intOf]; omega
    · have hpq : p = q := by omega
      subst hpq
      have ht : ix.take p = ix := List.take_of_length_le (by rw [HI.out, List.length_map, HF.out]; exact Nat.le_refl _)
      rw [ht] at hown
      have hrb := (hr.below hb).sub (lo := i + 1 + p) (hi := i + 1 + p + k) (by omega) (by omega) hc
      rw [← List.map_drop, ← List.map_take, show i + 1 + p + k - (i + 1 + p) = k by omega, ← HB.out] at hrb
      have HCl := Lib.hid (fun c' => clone_u64 _ k c' w.heap.size (bs.map (.int .u64)) wr hrb (by omega) (u64s_one _) (by omega))
      have k0 := B0.cell 0
      have k1 := B0.cell 1
      have k2 := B0.cell 2
      simp only [List.getElem?_toArray, List.getElem?_cons_zero, List.getElem?_cons_succ] at k0 k1 k2
      have hpos : 0 < n := by omega
      obtain ⟨ad, rfl, had, -⟩ := hr.2 hpos
      clear ht hrb
      by_cases hci : c = i + 1 + p
      · have HCl := HCl.out
        rw [if_pos hci] at HCl
        have HCl := Lib.hid HCl
        go_wp2_with fail
        refine (HCl.out _).mono ?_
        rintro e w7 ⟨A7, c7, rfl, hown7, hb7⟩
        have D1 := Blk.below (B := wr.heap.size) B1 hb7 (by omega)
        have D2 := Blk.below (B := wr.heap.size) B2 hb7 (by omega)
        have hown8 := own_below hown hb7
        have hb07 := hb.trans (hb7.mono hb.size)
        have m0 := D2.cell 0
        have m1 := D2.cell 1
        have m2 := D2.cell 2
        have m3 := D2.cell 3
        have f2 := D2.frozen 2
        have n0 := D1.cell 0
        have n1 := D1.cell 1
        have n2 := D1.cell 2
        have n3 := D1.cell 3
        have g0 := D1.frozen 0
        have g1 := D1.frozen 1
        have g2 := D1.frozen 2
        have g3 := D1.frozen 3
        simp only [List.getElem?_toArray, List.getElem?_cons_zero, List.getElem?_cons_succ] at m0 m1 m2 m3 n0 n1 n2 n3
        have HO1 := Lib.hid hown8
        have HO2 := Lib.hid hown7
        have HB7 := Lib.hid hb07
        clear hown hown7 hown8 hb07 hb7 D1 D2 B0 B1 B2 k0 k1 k2 hb
        go_wp2
        refine bodyPost_ret (v := .agg #[.int .i64 t, .slice A1 p c1, .slice A7 k c7, .bool f]) ?_ rfl ⟨?_, A1, c1, A7, c7, rfl, ?_, ?_⟩
        · simp only [results, Try.results77]
          go_simp
        · iterate 5 refine Below.setCell ?_ (by dsimp only; omega) _
          exact HB7.out
        · refine own_mono (base' := w.heap.size + 3) ?_ (by omega)
          iterate 5 refine own_far ?_ (by dsimp only; omega) _
          exact HO1.out
        · refine own_mono (base' := w.heap.size + 3) ?_ (by omega)
          iterate 5 refine own_far ?_ (by dsimp only; omega) _
          exact own_mono HO2.out (by omega)
      · have HCl := HCl.out
        rw [if_neg hci] at HCl
        have HCl := Lib.hid HCl
        go_wp2_with fail
        refine (HCl.out _).mono ?_
        rintro e w7 ⟨A7, c7, rfl, hown7, hb7⟩
        have D1 := Blk.below (B := wr.heap.size) B1 hb7 (by omega)
        have D2 := Blk.below (B := wr.heap.size) B2 hb7 (by omega)
        have hown8 := own_below hown hb7
        have hb07 := hb.trans (hb7.mono hb.size)
        have m0 := D2.cell 0
        have m1 := D2.cell 1
        have m2 := D2.cell 2
        have m3 := D2.cell 3
        have f2 := D2.frozen 2
        have n0 := D1.cell 0
        have n1 := D1.cell 1
        have n2 := D1.cell 2
        have n3 := D1.cell 3
        have g0 := D1.frozen 0
        have g1 := D1.frozen 1
        have g2 := D1.frozen 2
        have g3 := D1.frozen 3
        simp only [List.getElem?_toArray, List.getElem?_cons_zero, List.getElem?_cons_succ] at m0 m1 m2 m3 n0 n1 n2 n3
        have HO1 := Lib.hid hown8
        have HO2 := Lib.hid hown7
        have HB7 := Lib.hid hb07
        clear hown hown7 hown8 hb07 hb7 D1 D2 B0 B1 B2 k0 k1 k2 hb
        go_wp2
        refine bodyPost_ret (v := .agg #[.int .i64 t, .slice A1 p c1, .slice A7 k c7, .bool f]) ?_ rfl ⟨?_, A1, c1, A7, c7, rfl, ?_, ?_⟩
        · simp only [results, Try.results77]
          go_simp
        · iterate 5 refine Below.setCell ?_ (by dsimp only; omega) _
          exact HB7.out
        · refine own_mono (base' := w.heap.size + 3) ?_ (by omega)
          iterate 5 refine own_far ?_ (by dsimp only; omega) _
          exact HO1.out
        · refine own_mono (base' := w.heap.size + 3) ?_ (by omega)
          iterate 5 refine own_far ?_ (by dsimp only; omega) _
          exact own_mono HO2.out (by omega)
end Go.Proofs.Ytbmkbnalembbjaa

namespace Go.Proofs.Ytbmkbnalembbjaa
open Go.RowKit
set_option maxRecDepth 100000 in
set_option maxHeartbeats 1000000 in
theorem indexSpot_any (F : Nat) (cap : Value) (A : Option Addr) (n c B : Nat) (l : List Spot) (p : Spot → Bool) (w : World) (hr : Reads w B 5 A n (spotsC l)) (hB : B ≤ w.heap.size) (hn : n ≤ 1000000) (hF : Plain Try.prog F)
    (HC : ∀ (w' : World) (s : Spot), Below w.heap.size w w' → s ∈ l → Calls Try.prog F #[.agg #[.int .i64 s.loc, .int .i64 s.r, .int .i64 s.b, .int .i64 s.t, .bool s.f], cap] w' fun e w'' => e = .returned (.bool (p s)) ∧ Below w'.heap.size w' w'') :
    Calls Try.prog 75 #[.slice A n c, .func (.func F) #[] #[cap]] w fun e w' => e = .returned (.int .i64 (ixOf p l)) ∧ Below w.heap.size w w' := by
  have hll : l.length = n := by have := hr.1; rw [spotsC_length] at this; omega
  have HL := Lib.hid hll
  have HC := Lib.hid HC
  have hcf := fun (x : Value) (w : World) => hF #[x, cap] w
  clear hll hF
  go_enter Try.func75, Try.ntmps75
  go_wp2
  go_loopw [5, 8] (fun _ i wr => ∃ j : Nat, j ≤ n ∧ i = .int .i64 j ∧ Below w.heap.size w wr ∧ Hid (∀ x ∈ l.take j, p x = false)) (fun _ i _ => n - (intOf i).toNat)
  case atStart => exact ⟨0, Nat.zero_le _, rfl, Below.refl _ _, by intro x hx; simp at hx⟩
  case round =>
    obtain ⟨j, hj, rfl, hb, HD⟩ := hrel
    by_cases hlt : j < n
    · obtain ⟨ad, s, rfl, had, hs, c0, c1, c2, c3, c4⟩ := (hr.below (hb.mono hB)).spot hlt
      have HS := Lib.hid hs
      have HQ := Lib.hid (HC.out wr s hb (List.mem_of_getElem? hs))
      clear hs
      cases hp : p s
      · have HF := Lib.hid hp
        clear hp
        go_wp2_with fail
        refine HQ.out.mono ?_
        rw [HF.out]
        rintro e w1 ⟨rfl, hb1⟩
        go_wp2
        go_roundw
        case rel => exact ⟨j + 1, by omega, by go_num, hb.trans (hb1.mono hb.size), fun x hx => by
          rcases take_succ_mem HS.out x hx with h | rfl
          · exact HD.out x h
          · exact HF.out⟩
        case measure => simp [intOf]; omega
      · have HF := Lib.hid hp
        clear hp
        go_wp2_with fail
        refine HQ.out.mono ?_
        rw [HF.out]
        rintro e w1 ⟨rfl, hb1⟩
        go_wp2
        go_ret
        exact ⟨ret_int (ixOf_some HS.out HF.out HD.out).symm, hb.trans (hb1.mono hb.size)⟩
    · go_wp2
      go_ret
      exact ⟨ret_int (ixOf_none (by have := HD.out; rwa [List.take_of_length_le (by rw [HL.out]; omega)] at this)).symm, hb⟩
end Go.Proofs.Ytbmkbnalembbjaa

namespace Go.Proofs.Ytbmkbnalembbjaa
open Go.RowKit
set_option maxHeartbeats 400000 in
theorem atClosure_any (g : Nat) (x : Int) (s : Spot) (w : World) (hg : g < w.heap.size) (hc : w.cell? ⟨g, 0, none⟩ = some (.int .i64 x)) :
    Calls Try.prog 76 #[.agg #[.int .i64 s.loc, .int .i64 s.r, .int .i64 s.b, .int .i64 s.t, .bool s.f], .pointer (some ⟨g, 0, none⟩)] w fun e w' => e = .returned (.bool (s.loc == x)) ∧ Below w.heap.size w w' := by
  go_enter Try.func76, Try.ntmps76
  go_wp2
  go_ret
  exact ⟨rfl, below_new _ _⟩
structure Ob where
  t : Int
  refs : List Int
  body : List Int
  f : Bool
deriving DecidableEq
def obOf (a : List Int) (l : List Spot) (s : Spot) : Ob := ⟨s.t, refIx l a s, bodyOf a s, s.f⟩
def atIx (a : List Int) (x : Int) : Int := ixOf (fun s => s.loc == x) (spotsL a)
set_option maxRecDepth 100000 in
set_option maxHeartbeats 1000000 in
theorem at_ok (A : Option Addr) (n c : Nat) (a : List Int) (x : Int) (i : Nat) (s : Spot) (w : World) (hr : Reads w w.heap.size 1 A n (a.map (.int .u64))) (hnc : n ≤ c) (ha : ∀ x ∈ a, (Lit.int .u64 x).wf = true) (hE : checkE a = 0)
    (hix : atIx a x = i) (hs : (spotsL a)[i]? = some s) :
    Calls Try.prog 52 #[.slice A n c, .int .i64 x] w fun e w' => Below w.heap.size w w' ∧ ∃ A1 c1 A2 c2, e = .returned (.tuple #[.agg #[.int .i64 s.t, .slice A1 s.r.toNat c1, .slice A2 s.b.toNat c2, .bool s.f], .int .i64 0]) ∧
      w'.ownsRow w.heap.size 3 1 (.slice A1 s.r.toNat c1) s.r.toNat ((refIx (spotsL a) a s).map (.int .i64)) ∧ w'.ownsRow w.heap.size 37 1 (.slice A2 s.b.toNat c2) s.b.toNat ((bodyOf a s).map (.int .u64)) := by
  have H := Lib.hid (fun w hr => check_ok A n c a w hr hnc ha hE)
  have hm256 := spotsL_length a
  have hix : ixOf (fun s => s.loc == x) (spotsL a) = i := hix
  obtain ⟨h0, _⟩ := checkE_ok.1 hE
  obtain ⟨hlen, hP⟩ := parse_ok h0
  have hok := (parse_mem hP s (List.mem_of_getElem? hs)).1
  have hal : a.length = n := by have := hr.1; simpa using this
  have hn : n ≤ 256 := by omega
  have hil := (List.getElem?_eq_some_iff.1 hs).1
  generalize spotsL a = l at *
  have HOb := Lib.hid (fun b w hr hM => object_any A n c b a l s w hr hnc hn hok ha hM)
  generalize refIx l a s = ix at *
  generalize bodyOf a s = bs at *
  generalize hp : (fun s : Spot => s.loc == x) = p at *
  have HPx := Lib.hid hp
  have HIX := Lib.hid (fun A n c B W hr hB hn HC => indexSpot_any 76 (.pointer (some ⟨w.heap.size, 0, none⟩)) A n c B l p W hr hB hn (plain_of (fn := Try.f76) Try.func76 (by kernel_rfl) (by kernel_rfl)) HC)
  rw [hix] at HIX
  have HS := Lib.hid hs
  clear hp hE h0 hP hok hal hs hix hlen
  go_enter Try.func52, Try.ntmps52
  go_wp2_with fail
  have hb0 := (below_new w (.cells #[.int .i64 x] 3)).alloc (by simp) (.cells #[.int .i64 0, .slice none 0 0, .slice none 0 0, .bool false] 104)
  have B0 := (Blk.new w 3 #[.int .i64 x]).alloc (.cells #[.int .i64 0, .slice none 0 0, .slice none 0 0, .bool false] 104)
  have B1 := Blk.new (w.alloc (.cells #[.int .i64 x] 3)) 104 #[.int .i64 0, .slice none 0 0, .slice none 0 0, .bool false]
  simp only [World.size_alloc] at B1
  refine (H.out _ ((hr.below hb0).more hb0.size)).mono ?_
  rintro e w1 ⟨hb1, A', c', b, rfl, hbb, hown, hM⟩
  have D0 := B0.below hb1 (by simp; omega)
  have D1 := B1.below hb1 (by simp)
  have hb01 := below_step hb0 (hb1.mono (by simp))
  have hsz : w.heap.size + 2 ≤ w1.heap.size := by have := hb1.size; simp at this; omega
  have hrl := Reads.of_own hown
  obtain ⟨m, hm⟩ : ∃ m, m = l.length := ⟨_, rfl⟩
  rw [← hm] at hrl hm256 hil
  rw [← hm]
  have HM := Lib.hid hm
  clear hb0 hb1 B0 B1 hown hm
  go_wp2_with fail
  refine (HIX.out _ _ _ _ _ hrl (Nat.le_refl _) (by omega) ?_).mono ?_
  · intro w' s hb' _
    have := atClosure_any w.heap.size x s w' (by have := hb'.size; omega) ((D0.below hb' (by omega)).cell 0)
    rw [← HPx.out]
    exact this
  rintro e w2 ⟨rfl, hb2⟩
  have D2 := D1.below hb2 (by omega)
  have hb02 := below_step hb01 hb2
  obtain ⟨ad, s', rfl, had, hs', c0, c1, c2, c3, c4⟩ := (hrl.below hb2).spot (j := i) (by omega)
  obtain rfl : s' = s := by rw [HS.out] at hs'; exact (Option.some.inj hs').symm
  have HO := Lib.hid (HOb.out b w2 ((hr.below hb02).more hb02.size) (hM.below hb2 hM.lt))
  have hil' : (i : Int) < m := by omega
  have hsz2 : w.heap.size + 2 ≤ w2.heap.size := by have := hb2.size; omega
  clear hs' hb01 hb2 D0 D1 hM
  obtain ⟨loc, r, bd, t, f⟩ := s'
  dsimp only at c0 c1 c2 c3 c4 HO ⊢
  go_wp2_with fail
  refine HO.out.mono ?_
  rintro e w3 ⟨hb3, A1, k1, A2, k2, rfl, hown1, hown2⟩
  have D3 := D2.below hb3 (by omega)
  have m0 := D3.cell 0
  have m1 := D3.cell 1
  have m2 := D3.cell 2
  have m3 := D3.cell 3
  have g0 := D3.frozen 0
  have g1 := D3.frozen 1
  have g2 := D3.frozen 2
  have g3 := D3.frozen 3
  simp only [List.getElem?_toArray, List.getElem?_cons_zero, List.getElem?_cons_succ] at m0 m1 m2 m3
  have HB := Lib.hid (below_step hb02 hb3)
  have HO1 := Lib.hid hown1
  have HO2 := Lib.hid hown2
  clear hb02 hb3 D2 D3 hown1 hown2
  go_wp2
  refine bodyPost_ret (v := .tuple #[.agg #[.int .i64 t, .slice A1 r.toNat k1, .slice A2 bd.toNat k2, .bool f], .int .i64 0]) ?_ rfl ⟨?_, A1, k1, A2, k2, rfl, ?_, ?_⟩
  · simp only [results, Try.results52]
    go_simp
  · iterate 4 refine Below.setCell ?_ (by dsimp only; omega) _
    exact HB.out
  · refine own_mono (base' := w2.heap.size) ?_ (by omega)
    iterate 4 refine own_far ?_ (by dsimp only; omega) _
    exact HO1.out
  · refine own_mono (base' := w2.heap.size) ?_ (by omega)
    iterate 4 refine own_far ?_ (by dsimp only; omega) _
    exact HO2.out
end Go.Proofs.Ytbmkbnalembbjaa

namespace Go.Proofs.Ytbmkbnalembbjaa
open Go.RowKit
set_option maxRecDepth 100000 in
set_option maxHeartbeats 1000000 in
theorem indexIntF_any (F : Nat) (cap : Value) (A : Option Addr) (n c B : Nat) (l : List Int) (p : Int → Bool) (w : World) (hr : Reads w B 1 A n (l.map (.int .i64))) (hB : B ≤ w.heap.size) (hn : n ≤ 1000000000000000000) (hP : Plain Try.prog F)
    (HC : ∀ (w' : World) (x : Int), Below w.heap.size w w' → x ∈ l → Calls Try.prog F #[.int .i64 x, cap] w' fun e w'' => e = .returned (.bool (p x)) ∧ Below w'.heap.size w' w'') :
    Calls Try.prog 109 #[.slice A n c, .func (.func F) #[] #[cap]] w fun e w' => e = .returned (.int .i64 (ixOf p l)) ∧ Below w.heap.size w w' := by
  have hll : l.length = n := by have := hr.1; simpa using this
  have HL := Lib.hid hll
  have HC := Lib.hid HC
  have hcf := fun (x : Value) (w : World) => hP #[x, cap] w
  clear hll hP
  go_enter Try.func109, Try.ntmps109
  go_wp2
  go_loopw [5, 8] (fun _ i wr => ∃ j : Nat, j ≤ n ∧ i = .int .i64 j ∧ Below w.heap.size w wr ∧ Hid (∀ x ∈ l.take j, p x = false)) (fun _ i _ => n - (intOf i).toNat)
  case atStart => exact ⟨0, Nat.zero_le _, rfl, Below.refl _ _, by intro x hx; simp at hx⟩
  case round =>
    obtain ⟨j, hj, rfl, hb, HD⟩ := hrel
    by_cases hlt : j < n
    · obtain ⟨ad, s, rfl, had, hs, c0⟩ := (hr.below (hb.mono hB)).num hlt
      have HS := Lib.hid hs
      have HQ := Lib.hid (HC.out wr s hb (List.mem_of_getElem? hs))
      clear hs
      cases hp : p s
      · have HF := Lib.hid hp
        clear hp
        go_wp2_with fail
        refine HQ.out.mono ?_
        rw [HF.out]
        rintro e w1 ⟨rfl, hb1⟩
        go_wp2
        go_roundw
        case rel => exact ⟨j + 1, by omega, by go_num, hb.trans (hb1.mono hb.size), fun x hx => by
          rcases take_succ_mem HS.out x hx with h | rfl
          · exact HD.out x h
          · exact HF.out⟩
        case measure => simp [intOf]; omega
      · have HF := Lib.hid hp
        clear hp
        go_wp2_with fail
        refine HQ.out.mono ?_
        rw [HF.out]
        rintro e w1 ⟨rfl, hb1⟩
        go_wp2
        go_ret
        exact ⟨ret_int (ixOf_some HS.out HF.out HD.out).symm, hb.trans (hb1.mono hb.size)⟩
    · go_wp2
      go_ret
      exact ⟨ret_int (ixOf_none (by have := HD.out; rwa [List.take_of_length_le (by rw [HL.out]; omega)] at this)).symm, hb⟩
theorem containsIntF_any (F : Nat) (cap : Value) (A : Option Addr) (n c B : Nat) (l : List Int) (p : Int → Bool) (w : World) (hr : Reads w B 1 A n (l.map (.int .i64))) (hB : B ≤ w.heap.size) (hn : n ≤ 1000000000000000000) (hP : Plain Try.prog F)
    (HC : ∀ (w' : World) (x : Int), Below w.heap.size w w' → x ∈ l → Calls Try.prog F #[.int .i64 x, cap] w' fun e w'' => e = .returned (.bool (p x)) ∧ Below w'.heap.size w' w'') :
    Calls Try.prog 82 #[.slice A n c, .func (.func F) #[] #[cap]] w fun e w' => e = .returned (.bool (l.any p)) ∧ Below w.heap.size w w' := by
  have H := Lib.hid (indexIntF_any F cap A n c B l p w hr hB hn hP HC)
  have hd := ixOf_nonneg p l
  rw [← hd]
  generalize ixOf p l = i at *
  clear HC hd
  go_enter Try.func82, Try.ntmps82
  go_wp2_with fail
  refine H.out.mono ?_
  rintro e w1 ⟨rfl, hb⟩
  go_wp2
  go_ret
  exact ⟨rfl, hb⟩
end Go.Proofs.Ytbmkbnalembbjaa

namespace Go.Proofs.Ytbmkbnalembbjaa
open Go.RowKit
set_option maxHeartbeats 400000 in
theorem index_int (A : Option Addr) (n c B : Nat) (xs : List Int) (v : Int) (w : World) (hr : Reads w B 1 A n (xs.map (.int .i64))) (hn : n ≤ 1000000000000000000) :
    Calls Try.prog 48 #[.slice A n c, .int .i64 v] w fun e w' => e = .returned (.int .i64 (ixOf (fun x => v == x) xs)) ∧ w = w' := by
  have hxl : xs.length = n := by have := hr.1; simpa using this
  have HX := Lib.hid hxl
  clear hxl
  go_enter Try.func48, Try.ntmps48
  go_wp2
  go_loop [8] (fun i => ∃ j : Nat, j ≤ n ∧ i = .int .i64 j ∧ ∀ x ∈ xs.take j, (v == x) = false) (fun i => n - (intOf i).toNat)
  case atStart => exact ⟨0, Nat.zero_le _, rfl, by simp⟩
  case round =>
    obtain ⟨j, hj, rfl, ht⟩ := hrel
    have HT := Lib.hid ht
    clear ht
    by_cases hlt : j < n
    · obtain ⟨ad, x, rfl, _, hx, hc⟩ := hr.num hlt
      have HS := Lib.hid hx
      clear hx
      cases he : (v == x)
      · have HE := Lib.hid he
        go_wp2
        go_round
        case rel => exact ⟨j + 1, by omega, by go_num, fun y hy => by
          rcases take_succ_mem HS.out y hy with h | rfl
          · exact HT.out y h
          · exact HE.out⟩
        case measure => simp [intOf]; omega
      · have HE := Lib.hid he
        go_wp2
        go_ret
        exact ⟨ret_int (ixOf_some HS.out HE.out HT.out).symm, rfl⟩
    · go_wp2
      go_ret
      exact ⟨ret_int (ixOf_none (by have := HT.out; rwa [List.take_of_length_le (by rw [HX.out]; omega)] at this)).symm, rfl⟩
theorem contains_int (A : Option Addr) (n c B : Nat) (xs : List Int) (v : Int) (b : Bool) (w : World) (hr : Reads w B 1 A n (xs.map (.int .i64))) (hn : n ≤ 1000000000000000000) (hb : decide (v ∈ xs) = b) :
    Calls Try.prog 72 #[.slice A n c, .int .i64 v] w fun e w' => e = .returned (.bool b) ∧ w = w' := by
  have H := index_int A n c B xs v w hr hn
  have hq := ixOf_nonneg (fun x => v == x) xs
  rw [any_eq_mem, hb] at hq
  generalize ixOf (fun x => v == x) xs = i at *
  have HH := Lib.hid H
  have HQ := Lib.hid hq
  clear H hq hb
  go_enter Try.func72, Try.ntmps72
  go_wp2_with (go_at_call 48; refine HH.out.mono ?_; rintro e w' ⟨rfl, rfl⟩)
  go_ret
  exact ⟨by rw [← HQ.out]; rfl, rfl⟩
end Go.Proofs.Ytbmkbnalembbjaa

namespace Go.Proofs.Ytbmkbnalembbjaa
open Go.RowKit
theorem spotAt_ix {a : List Int} (h0 : spotsE a = 0) {x : Int} {s : Spot} (h : spotAt (spotsL a) x = some s) : ∃ i : Nat, atIx a x = i ∧ (spotsL a)[i]? = some s := by
  obtain ⟨h1, -, rfl⟩ := spotAt_some h
  obtain ⟨i, hi⟩ := List.mem_iff_getElem?.1 h1
  refine ⟨i, ?_, hi⟩
  unfold atIx
  refine ixOf_some hi (by simp) (fun y hy => ?_)
  rw [List.mem_take_iff_getElem] at hy
  obtain ⟨j, hj, rfl⟩ := hy
  obtain ⟨q1, rfl⟩ := List.getElem?_eq_some_iff.1 hi
  have := List.pairwise_iff_getElem.1 (spots_rise h0) j i (by omega) q1 (by omega)
  simp only [beq_eq_false_iff_ne]
  omega
end Go.Proofs.Ytbmkbnalembbjaa
