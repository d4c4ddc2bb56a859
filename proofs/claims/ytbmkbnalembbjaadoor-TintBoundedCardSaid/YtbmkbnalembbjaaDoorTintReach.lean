/-
  package tint: Reach.
-/
import Derived.Test.YtbmkbnalembbjaaDoorTintEach
import Derived.Test.YtbmkbnalembbjaaDoorTintAdd
import Derived.Test.YtbmkbnalembbjaaDoorSortInt
namespace Go.Proofs.YtbmkbnalembbjaaDoor
open Go.RowKit

set_option maxHeartbeats 400000 in
theorem reach_bad (A : Option Addr) (n c : Nat) (a : List Int) (A2 : Option Addr) (n2 c2 : Nat) (w : World) (hr : Reads w w.heap.size 1 A n (a.map (.int .u64))) (hnc : n ≤ c) (ha : ∀ x ∈ a, (Lit.int .u64 x).wf = true) (hE : checkE a ≠ 0) :
    Calls Tryd.prog 6 #[.slice A n c, .slice A2 n2 c2] w fun e w' => e = .returned (.tuple #[.slice none 0 0, .int .i64 (checkE a)]) ∧ Below w.heap.size w w' := by
  have H := Lib.hid (fun w hr => heap_bad A n c a A2 n2 c2 w hr hnc ha hE)
  have hE1 : (checkE a != 0) = true := by simpa using hE
  generalize checkE a = E at *
  clear hE
  go_enter Tryd.func6, Tryd.ntmps6
  go_wp2_with fail
  refine (H.out _ hr).mono ?_
  rintro e w1 ⟨rfl, hb1⟩
  go_wp2
  go_ret2
  exact ⟨rfl, hb1⟩

/-- The closure, called for all that an object names. -/
theorem Search.adds {a : List Int} {S : List Spot} {f out : List Int} {i : Nat} {x : Int} (h : Search a S f out i) (hi : i ≤ out.length) (hx : out[i]? = some x) (hb : ∀ y ∈ linksAt a S x, y ∈ begsL S) :
    ∀ l : List Int, (∀ y ∈ l, y ∈ linksAt a S x) → Search a S f (l.foldl addL out) i ∧ out.length ≤ (l.foldl addL out).length ∧ (∀ y ∈ out, y ∈ l.foldl addL out) ∧ (∀ y ∈ l, y ∈ l.foldl addL out) ∧ (l.foldl addL out)[i]? = some x := by
  intro l
  induction l generalizing out with
  | nil => intro _; exact ⟨h, Nat.le_refl _, fun y hy => hy, by simp, hx⟩
  | cons y l ih =>
    intro hl
    have hy := hl y List.mem_cons_self
    have h1 : Search a S f (addL out y) i := h.add hi (hb y hy) (fun X hX hc => hc x (h.least X hX hc x (List.mem_of_getElem? hx)) y hy)
    have hle := addL_len out y
    have hx1 : (addL out y)[i]? = some x := by
      have hil := (List.getElem?_eq_some_iff.1 hx).1
      unfold addL
      split
      · exact hx
      · rw [List.getElem?_append_left hil]; exact hx
    obtain ⟨q1, q2, q3, q4, q5⟩ := ih h1 (by omega) hx1 (fun z hz => hl z (List.mem_cons_of_mem _ hz))
    have hs := addL_sub out y
    refine ⟨q1, by simp only [List.foldl_cons]; omega, fun z hz => q3 z (hs.1 z hz), fun z hz => ?_, q5⟩
    rcases List.mem_cons.1 hz with rfl | hz
    · exact q3 z hs.2
    · exact q4 z hz

theorem Search.next {a : List Int} {S : List Spot} {f out : List Int} {i : Nat} {x : Int} (h : Search a S f out i) (hx : out[i]? = some x) (hc : ∀ y ∈ linksAt a S x, y ∈ out) : Search a S f out (i + 1) :=
  ⟨h.begs, h.once, h.least, fun k z hk hz y hy => by
    by_cases hki : k = i
    · subst hki
      obtain rfl := Option.some.inj (hx.symm.trans hz)
      exact hc y hy
    · exact h.seen k z (by omega) hz y hy⟩
theorem Search.done {a : List Int} {S : List Spot} {f out : List Int} (h : Search a S f out out.length) (hf : ∀ x ∈ f, x ∈ out) : Reached a S f (sortL out) :=
  ⟨fun x hx => h.begs x (sortL_mem.1 hx), fun x hx => sortL_mem.2 (hf x hx), fun x hx y hy => sortL_mem.2 (by
      obtain ⟨k, hk⟩ := List.mem_iff_getElem?.1 (sortL_mem.1 hx)
      exact h.seen k x (List.getElem?_eq_some_iff.1 hk).1 hk y hy), fun X hX hc x hx => h.least X hX hc x (sortL_mem.1 hx), sortL_sorted _, (sortL_perm out).nodup_iff.2 h.once⟩

set_option maxRecDepth 100000 in
set_option maxHeartbeats 2000000 in
theorem reach_ok (A : Option Addr) (n c : Nat) (a : List Int) (A2 : Option Addr) (n2 c2 : Nat) (f : List Int) (w : World) (hr : Reads w w.heap.size 1 A n (a.map (.int .u64))) (hnc : n ≤ c) (ha : ∀ x ∈ a, (Lit.int .u64 x).wf = true)
    (hr2 : Reads w w.heap.size 1 A2 n2 (f.map (.int .i64))) (hn2 : n2 ≤ 1000000000000000000) (hx2 : ∀ x ∈ f, (Lit.int .i64 x).wf = true) (hE : checkE a = 0) :
    Calls Tryd.prog 6 #[.slice A n c, .slice A2 n2 c2] w fun e w' => Below w.heap.size w w' ∧
      ((∃ L A' c', Reached a (spotsL a) f L ∧ e = .returned (.tuple #[.slice A' L.length c', .int .i64 0]) ∧ w'.ownsRow w.heap.size 3 1 (.slice A' L.length c') L.length (L.map (.int .i64))) ∨
       ((∃ x ∈ f, x ∉ begsL (spotsL a)) ∧ e = .returned (.tuple #[.slice none 0 0, .int .i64 5]))) := by
  have hal : a.length = n := by have := hr.1; simpa using this
  have hfl : f.length = n2 := by have := hr2.1; simpa using this
  have h0 := (checkE_ok.1 hE).1
  have hn : n ≤ 256 := by have := (parse_ok h0).1; omega
  have H := Lib.hid (fun w hr hr2 => heap_ok A n c a A2 n2 c2 f w hr hnc ha hr2 hn2 hx2 hE)
  have hlb := fun x => linksAt_begs hE x
  have hmem := (parse_mem (parse_ok h0).2)
  have hbb := begsL_bounds h0
  have HSl : Hid (∀ out i, Search a (spotsL a) f out i → out.length ≤ 256) := fun out i h => h.len h0
  have HLk := Lib.hid (fun (s : Spot) (hs : s ∈ spotsL a) => links_begs hE hs)
  generalize spotsL a = S at *
  have HLB := Lib.hid hlb
  have HMEM := Lib.hid hmem
  have HBB := Lib.hid hbb
  have HFL := Lib.hid hfl
  clear hE h0 hlb hmem hbb hfl hal
  go_enter Tryd.func6, Tryd.ntmps6
  go_wp2_with fail
  refine (H.out _ hr hr2).mono ?_
  rintro e w1 ⟨hb1, hcase⟩
  rcases hcase with ⟨hall, gh, rfl, hheap⟩ | ⟨hex, rfl⟩
  · have HALL := Lib.hid hall
    have HH := Lib.hid hheap
    have hmm := @run_makeMap Tryd.prog
    have hA0 : AddSt w1 [] (((w1.alloc (.map #[] 0)).alloc (.cells #[.map (some w1.heap.size)] 56)).alloc (.cells #[.slice none 0 0] 23)) := by
      have e1 := (Blk.new (w1.alloc (.map #[] 0)) 56 #[.map (some w1.heap.size)]).alloc (.cells #[.slice none 0 0] 23)
      have e2 := Blk.new ((w1.alloc (.map #[] 0)).alloc (.cells #[.map (some w1.heap.size)] 56)) 23 #[.slice none 0 0]
      have e3 := ((MapIs.made w1 Tryd.prog 3 .i64).alloc (.cells #[.map (some w1.heap.size)] 56)).alloc (.cells #[.slice none 0 0] 23)
      simp only [World.size_alloc] at e1 e2
      exact ⟨none, 0, e1, e2, e3, World.ownsRow_nil _ _ _ _, ((below_new w1 _).alloc (by simp) _).alloc (by simp; omega) _⟩
    have HA0 := Lib.hid hA0
    have hcf := fun (x : Value) (w : World) => (plain_of (fn := Tryd.f20) Tryd.func20 (by kernel_rfl) (by kernel_rfl)) #[x, .pointer (some ⟨w1.heap.size + 1, 0, none⟩), .pointer (some ⟨w1.heap.size + 1 + 1, 0, none⟩)] w
    have hr21 := hr2.below hb1
    have hr11 := hr.below hb1
    have HX2 := Lib.hid hx2
    clear hall hheap hA0 hx2
    go_wp2
    go_loopw [27] (fun i wr => ∃ (j : Nat) (out : List Int), j ≤ n2 ∧ i = .int .i64 j ∧ Hid (AddSt w1 out wr) ∧ Hid (Search a S f out 0 ∧ ∀ x ∈ f.take j, x ∈ out)) (fun i _ => n2 - (intOf i).toNat)
    case atStart => exact ⟨0, [], Nat.zero_le _, rfl, HA0, ⟨Search.nil a S f, by intro x hx; simp at hx⟩⟩
    case round =>
      obtain ⟨j, out, hj, rfl, HA, HS⟩ := hrel
      have hbr : Below w1.heap.size w1 wr := by obtain ⟨_, _, _, _, _, _, h⟩ := HA.out; exact h
      by_cases hlt : j < n2
      · obtain ⟨ad, x, rfl, had, hx, cx⟩ := ((hr2.below hb1).below (hbr.mono hb1.size)).num hlt
        have hxf := List.mem_of_getElem? hx
        have hS2 : Search a S f (addL out x) 0 := HS.out.1.add (Nat.zero_le _) (HALL.out x hxf) (fun X hX hc => hX x hxf)
        have HS2 : Hid (Search a S f (addL out x) 0 ∧ ∀ y ∈ f.take (j + 1), y ∈ addL out x) := by
          refine ⟨hS2, fun y hy => ?_⟩
          obtain ⟨q1, q2⟩ := List.getElem?_eq_some_iff.1 hx
          rw [List.take_succ_eq_append_getElem q1, List.mem_append] at hy
          have hs := addL_sub out x
          rcases hy with hy | hy
          · exact hs.1 y (HS.out.2 y hy)
          · simp only [List.mem_cons, List.not_mem_nil, or_false] at hy
            rw [hy, q2]; exact hs.2
        have HAd := Lib.hid (add_any w1 out x wr HA.out (HX2.out x hxf) (by have := HSl.out _ _ HS.out.1; omega))
        have hj1 : j + 1 ≤ n2 := hlt
        clear hx hxf hS2 HS hbr
        go_wp2_with fail
        refine HAd.out.mono ?_
        rintro e w3 ⟨rfl, hA3⟩
        have HA3 := Lib.hid hA3
        go_wp2
        go_roundw
        case rel => exact ⟨j + 1, _, hj1, by go_num, HA3, HS2⟩
        case measure => simp [intOf]; omega
      · have HF : Hid (∀ x ∈ f, x ∈ out) := by
          have := HS.out.2
          rw [List.take_of_length_le (by rw [HFL.out]; omega)] at this
          exact this
        have HS0 := Lib.hid HS.out.1
        have g0 : decide (j < n2) = false := decide_eq_false hlt
        obtain ⟨wo, hwo⟩ : ∃ x, x = wr := ⟨wr, rfl⟩
        subst hwo
        clear HS hbr
        go_wp2
        go_loopw [13] (fun i wr => ∃ (j : Nat) (out : List Int), j ≤ out.length ∧ i = .int .i64 j ∧ Hid (AddSt w1 out wr) ∧ Hid (Search a S f out j ∧ ∀ x ∈ f, x ∈ out)) (fun i _ => 256 - (intOf i).toNat)
        case atStart => exact ⟨0, out, Nat.zero_le _, rfl, HA, ⟨HS0.out, HF.out⟩⟩
        case round =>
          obtain ⟨j, out, hj, rfl, HA, HS⟩ := hrel
          obtain ⟨Ao, co, e1, e2, e3, e4, e5⟩ := HA.out
          have hlen := HSl.out _ _ HS.out.1
          obtain ⟨k, hk⟩ : ∃ k, k = out.length := ⟨_, rfl⟩
          have d0 := e2.cell 0
          simp only [List.getElem?_toArray, List.getElem?_cons_zero] at d0
          rw [← hk] at d0 e2 e4 hlen hj
          have HK := Lib.hid hk
          by_cases hlt : j < k
          · obtain ⟨ad, x, rfl, had, hx, cx⟩ := (Reads.of_own e4).num hlt
            have hxb := HS.out.1.begs x (List.mem_of_getElem? hx)
            obtain ⟨s, hs⟩ := begsL_iff.1 hxb
            obtain ⟨hsS, -, hsl⟩ := spotAt_some hs
            have hlk : linksAt a S x = linksL a s := by unfold linksAt; rw [hs]
            have hok := (HMEM.out s hsS).1
            obtain ⟨b, Ah, kh, ch, g1, g2, g3, g4, g5⟩ := HH.out.below e5
            have hAds := HS.out.1.adds (by omega) hx (HLB.out x)
            rw [hlk] at hAds
            have HAds := Lib.hid hAds
            have hEa := each_any 20 (.pointer (some ⟨w1.heap.size + 1, 0, none⟩)) (.pointer (some ⟨w1.heap.size + 1 + 1, 0, none⟩)) gh b w1.heap.size A Ah n c kh ch a S s wr g1 g4 (by rw [hsl]; exact hs) hok ((hr11.below (e5.mono hb1.size)).more hb1.size) hnc hn (plain_of (fn := Tryd.f20) Tryd.func20 (by kernel_rfl) (by kernel_rfl))
              (fun v hv => by
                by_cases hv0 : v = 0
                · exact .inl hv0
                · have h1 : v - 1 ∈ linksL a s := List.mem_map.2 ⟨v, List.mem_filter.2 ⟨hv, by simpa using hv0⟩, rfl⟩
                  have := HBB.out _ (HLk.out s hsS _ h1)
                  exact .inr (by omega))
              (fun l w' => (∀ y ∈ l, y ∈ linksL a s) ∧ AddSt w1 (l.foldl addL out) w')
              ⟨by simp, HA.out⟩ (fun l w' q h => ⟨h.1, h.2.drewN q⟩)
              (fun l w' h => by obtain ⟨-, _, _, _, _, _, _, h5⟩ := h; exact (hr11.below (h5.mono hb1.size)).more hb1.size)
              (fun l y w' h hy => by
                have h1 := HBB.out _ (HLk.out s hsS _ hy)
                have h2 := (HAds.out l h.1).1
                refine (add_any w1 (l.foldl addL out) y w' h.2 (by simp [Lit.wf, IntKind.min, IntKind.max, IntKind.signed, IntKind.bits]; omega) (by have := HSl.out _ _ h2; omega)).mono ?_
                rintro e w'' ⟨rfl, h3⟩
                refine ⟨rfl, fun z hz => ?_, by rw [List.foldl_append]; exact h3⟩
                rcases List.mem_append.1 hz with hz | hz
                · exact h.1 z hz
                · simp only [List.mem_cons, List.not_mem_nil, or_false] at hz
                  subst hz; exact hy)
            rw [hsl] at hEa
            have HEa := Lib.hid hEa
            obtain ⟨t1, t2, t3, t4, t5⟩ := hAds (linksL a s) (fun y hy => hy)
            have HS2 : Hid (Search a S f ((linksL a s).foldl addL out) (j + 1) ∧ ∀ y ∈ f, y ∈ (linksL a s).foldl addL out) := ⟨t1.next t5 (by rw [hlk]; exact t4), fun y hy => t3 y (HS.out.2 y hy)⟩
            have hj1 : j + 1 ≤ ((linksL a s).foldl addL out).length := by omega
            have HJ1 := Lib.hid hj1
            clear hx hxb hs hlk hok g1 g4 g5 hAds hEa t1 t2 t3 t4 t5 HS e1 e2 e3 e4 e5 hj1
            go_wp2_with fail
            refine HEa.out.mono ?_
            rintro e w5 ⟨rfl, -, hA5⟩
            have HA5 := Lib.hid hA5
            go_wp2
            go_roundw
            case rel => exact ⟨j + 1, _, HJ1.out, by go_num, HA5, HS2⟩
            case measure => simp [intOf]; omega
          · have hjk : j = k := by omega
            have hso := sort_int _ Ao k co out wr e4 (by omega)
            have HSo := Lib.hid hso
            have HRe : Hid (Reached a S f (sortL out)) := by
              have h1 := HS.out.1
              rw [hjk, hk] at h1
              exact h1.done HS.out.2
            have g2 : decide (j < k) = false := decide_eq_false hlt
            have HB5 := Lib.hid e5
            have hlw := e2.lt
            have HE4 := Lib.hid e4
            have HE2 := Lib.hid e2
            clear hso hjk HS e1 e3 HA hk e5 e4 e2
            go_wp2_with fail
            refine HSo.out.mono ?_
            rintro e w5 ⟨rfl, hown5, hg5⟩
            have e6 := HE2.out.grown hg5 (fun h => own_off HE4.out (by omega) h.symm)
            have p0 := e6.cell 0
            simp only [List.getElem?_toArray, List.getElem?_cons_zero] at p0
            have hbz := HB5.out.grown hg5 HB5.out.size (fun g hg => by have := (HE4.out.lt g hg).1; omega)
            have HO5 := Lib.hid (own_mono (base := w.heap.size) hown5 (by have := hb1.size; omega))
            have HL : Hid (k = (sortL out).length) := by show _ = _; rw [sortL_length]; exact HK.out
            clear hown5 hg5 e6
            go_wp2
            go_ret2
            refine ⟨below_step hb1 hbz, .inl ⟨sortL out, Ao, co, HRe.out, ?_, ?_⟩⟩
            · rw [← HL.out]; rfl
            · rw [← HL.out]; exact HO5.out
  · have HEX := Lib.hid hex
    clear hex
    go_wp2
    go_ret2
    exact ⟨hb1, .inr ⟨HEX.out, rfl⟩⟩
end Go.Proofs.YtbmkbnalembbjaaDoor
