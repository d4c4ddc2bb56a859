/-
  Texts joined: TintReach IntF ContainsInt TintFns CarryOrd Form Chunks IsoLaw SetPay RootLib.
-/
import Derived.Test.YtgkoaambdejkdaaRows
import Derived.Deep.RegionHeld3
import Derived.Shelf.SlicesE.DeleteFunc
import Derived.Ground.SlgfProg
import Derived.Shelf.SlicesG.CompactI
import Derived.Ground.SlgnProg
import Derived.Test.YtgkoaambdejkdaaG0
import Derived.Test.YtgkoaambdejkdaaG1
import Derived.Test.YtgkoaambdejkdaaG2
namespace Go.Proofs.Ytgkoaambdejkdaa
open Go.RowKit
set_option maxHeartbeats 400000 in
theorem reach_bad (A : Option Addr) (n c : Nat) (a : List Int) (A2 : Option Addr) (n2 c2 : Nat) (w : World) (hr : Reads w w.heap.size 1 A n (a.map (.int .u64))) (hnc : n ≤ c) (ha : ∀ x ∈ a, (Lit.int .u64 x).wf = true) (hE : checkE a ≠ 0) :
    Calls Try.prog 17 #[.slice A n c, .slice A2 n2 c2] w fun e w' => e = .returned (.tuple #[.slice none 0 0, .int .i64 (checkE a)]) ∧ Below w.heap.size w w' := by
  have H := Lib.hid (fun w hr => heap_bad A n c a A2 n2 c2 w hr hnc ha hE)
  have hE1 : (checkE a != 0) = true := by simpa using hE
  generalize checkE a = E at *
  clear hE
  go_enter Try.func17, Try.ntmps17
  go_wp2_with fail
  refine (H.out _ hr).mono ?_
  rintro e w1 ⟨rfl, hb1⟩
  go_wp2
  go_ret2
  exact ⟨rfl, hb1⟩
theorem Search.adds {a : List Int} {S : List Spot} {f out : List Int} {i : Nat} {x : Int} (h : Search a S f out i) (hi : i ≤ out.length) (hx : out[i]? = some x) (hb : ∀ y ∈ linksAt a S x, y ∈ begsL S) :
    ∀ l : List Int, (∀ y ∈ l, y ∈ linksAt a S x) → Search a S f (l.foldl addL out) i ∧ out.length ≤ (l.foldl addL out).length ∧ (∀ y ∈ out, y ∈ l.foldl addL out) ∧ (∀ y ∈ l, y ∈ l.foldl addL out) ∧ (l.foldl addL out)[i]? = some x := by
  intro l
  induction l generalizing out with
  | nil => intro _; exact ⟨h, Nat.le_refl _, fun y hy => hy, by simp, hx⟩
  | cons y l ih =>
    intro hl
    have hy := hl y List.mem_cons_self
    have h1 : Search a S f (addL out y) i := h.add hi (hb y hy) (fun X hX hc => hc x (h.least X hX hc x (List.mem_of_getElem? hx)) y hy)
    have hle := addL_len out y
    have hx1 : (addL out y)[i]? = some x := by
      have hil := (List.getElem?_eq_some_iff.1 hx).1
      unfold addL
      split
      · exact hx
      · rw [List.getElem?_append_left hil]; exact hx
    obtain ⟨q1, q2, q3, q4, q5⟩ := ih h1 (by omega) hx1 (fun z hz => hl z (List.mem_cons_of_mem _ hz))
    have hs := addL_sub out y
    refine ⟨q1, by simp only [List.foldl_cons]; omega, fun z hz => q3 z (hs.1 z hz), fun z hz => ?_, q5⟩
    rcases List.mem_cons.1 hz with rfl | hz
    · exact q3 z hs.2
    · exact q4 z hz
theorem Search.next {a : List Int} {S : List Spot} {f out : List Int} {i : Nat} {x : Int} (h : Search a S f out i) (hx : out[i]? = some x) (hc : ∀ y ∈ linksAt a S x, y ∈ out) : Search a S f out (i + 1) :=
  ⟨h.begs, h.once, h.least, fun k z hk hz y hy => by
    by_cases hki : k = i
    · subst hki
      obtain rfl := Option.some.inj (hx.symm.trans hz)
      exact hc y hy
    · exact h.seen k z (by omega) hz y hy⟩
theorem Search.done {a : List Int} {S : List Spot} {f out : List Int} (h : Search a S f out out.length) (hf : ∀ x ∈ f, x ∈ out) : Reached a S f (sortL out) :=
  ⟨fun x hx => h.begs x (sortL_mem.1 hx), fun x hx => sortL_mem.2 (hf x hx), fun x hx y hy => sortL_mem.2 (by
      obtain ⟨k, hk⟩ := List.mem_iff_getElem?.1 (sortL_mem.1 hx)
      exact h.seen k x (List.getElem?_eq_some_iff.1 hk).1 hk y hy), fun X hX hc x hx => h.least X hX hc x (sortL_mem.1 hx), sortL_sorted _, (sortL_perm out).nodup_iff.2 h.once⟩
set_option maxRecDepth 100000 in
set_option maxHeartbeats 2000000 in
theorem reach_ok (A : Option Addr) (n c : Nat) (a : List Int) (A2 : Option Addr) (n2 c2 : Nat) (f : List Int) (w : World) (hr : Reads w w.heap.size 1 A n (a.map (.int .u64))) (hnc : n ≤ c) (ha : ∀ x ∈ a, (Lit.int .u64 x).wf = true)
    (hr2 : Reads w w.heap.size 1 A2 n2 (f.map (.int .i64))) (hn2 : n2 ≤ 1000000000000000000) (hx2 : ∀ x ∈ f, (Lit.int .i64 x).wf = true) (hE : checkE a = 0) :
    Calls Try.prog 17 #[.slice A n c, .slice A2 n2 c2] w fun e w' => Below w.heap.size w w' ∧
      ((∃ L A' c', Reached a (spotsL a) f L ∧ e = .returned (.tuple #[.slice A' L.length c', .int .i64 0]) ∧ w'.ownsRow w.heap.size 3 1 (.slice A' L.length c') L.length (L.map (.int .i64))) ∨
       ((∃ x ∈ f, x ∉ begsL (spotsL a)) ∧ e = .returned (.tuple #[.slice none 0 0, .int .i64 5]))) := by
  have hal : a.length = n := by have := hr.1; simpa using this
  have hfl : f.length = n2 := by have := hr2.1; simpa using this
  have h0 := (checkE_ok.1 hE).1
  have hn : n ≤ 256 := by have := (parse_ok h0).1; omega
  have H := Lib.hid (fun w hr hr2 => heap_ok A n c a A2 n2 c2 f w hr hnc ha hr2 hn2 hx2 hE)
  have hlb := fun x => linksAt_begs hE x
  have hmem := (parse_mem (parse_ok h0).2)
  have hbb := begsL_bounds h0
  have HSl : Hid (∀ out i, Search a (spotsL a) f out i → out.length ≤ 256) := fun out i h => h.len h0
  have HLk := Lib.hid (fun (s : Spot) (hs : s ∈ spotsL a) => links_begs hE hs)
  generalize spotsL a = S at *
  have HLB := Lib.hid hlb
  have HMEM := Lib.hid hmem
  have HBB := Lib.hid hbb
  have HFL := Lib.hid hfl
  clear hE h0 hlb hmem hbb hfl hal
  go_enter Try.func17, Try.ntmps17
  go_wp2_with fail
  refine (H.out _ hr hr2).mono ?_
  rintro e w1 ⟨hb1, hcase⟩
  rcases hcase with ⟨hall, gh, rfl, hheap⟩ | ⟨hex, rfl⟩
  · have HALL := Lib.hid hall
    have HH := Lib.hid hheap
    have hmm := @run_makeMap Try.prog
    have hA0 : AddSt w1 [] (((w1.alloc (.map #[] 0)).alloc (.cells #[.map (some w1.heap.size)] 98)).alloc (.cells #[.slice none 0 0] 23)) := by
      have e1 := (Blk.new (w1.alloc (.map #[] 0)) 98 #[.map (some w1.heap.size)]).alloc (.cells #[.slice none 0 0] 23)
      have e2 := Blk.new ((w1.alloc (.map #[] 0)).alloc (.cells #[.map (some w1.heap.size)] 98)) 23 #[.slice none 0 0]
      have e3 := ((MapIs.made w1 Try.prog 3 .i64).alloc (.cells #[.map (some w1.heap.size)] 98)).alloc (.cells #[.slice none 0 0] 23)
      simp only [World.size_alloc] at e1 e2
      exact ⟨none, 0, e1, e2, e3, World.ownsRow_nil _ _ _ _, ((below_new w1 _).alloc (by simp) _).alloc (by simp; omega) _⟩
    have HA0 := Lib.hid hA0
    have hcf := fun (x : Value) (w : World) => (plain_of (fn := Try.f53) Try.func53 (by kernel_rfl) (by kernel_rfl)) #[x, .pointer (some ⟨w1.heap.size + 1, 0, none⟩), .pointer (some ⟨w1.heap.size + 1 + 1, 0, none⟩)] w
    have hr21 := hr2.below hb1
    have hr11 := hr.below hb1
    have HX2 := Lib.hid hx2
    clear hall hheap hA0 hx2
    go_wp2
    go_loopw [27] (fun i wr => ∃ (j : Nat) (out : List Int), j ≤ n2 ∧ i = .int .i64 j ∧ Hid (AddSt w1 out wr) ∧ Hid (Search a S f out 0 ∧ ∀ x ∈ f.take j, x ∈ out)) (fun i _ => n2 - (intOf i).toNat)
    case atStart => exact ⟨0, [], Nat.zero_le _, rfl, HA0, ⟨Search.nil a S f, by intro x hx; simp at hx⟩⟩
    case round =>
      obtain ⟨j, out, hj, rfl, HA, HS⟩ := hrel
      have hbr : Below w1.heap.size w1 wr := by obtain ⟨_, _, _, _, _, _, h⟩ := HA.out; exact h
      by_cases hlt : j < n2
      · obtain ⟨ad, x, rfl, had, hx, cx⟩ := ((hr2.below hb1).below (hbr.mono hb1.size)).num hlt
        have hxf := List.mem_of_getElem? hx
        have hS2 : Search a S f (addL out x) 0 := HS.out.1.add (Nat.zero_le _) (HALL.out x hxf) (fun X hX hc => hX x hxf)
        have HS2 : Hid (Search a S f (addL out x) 0 ∧ ∀ y ∈ f.take (j + 1), y ∈ addL out x) := by
          refine ⟨hS2, fun y hy => ?_⟩
          obtain ⟨q1, q2⟩ := List.getElem?_eq_some_iff.1 hx
          rw [List.take_succ_eq_append_getElem q1, List.mem_append] at hy
          have hs := addL_sub out x
          rcases hy with hy | hy
          · exact hs.1 y (HS.out.2 y hy)
          · simp only [List.mem_cons, List.not_mem_nil, or_false] at hy
            rw [hy, q2]; exact hs.2
        have HAd := Lib.hid (add_any w1 out x wr HA.out (HX2.out x hxf) (by have := HSl.out _ _ HS.out.1; omega))
        have hj1 : j + 1 ≤ n2 := hlt
        clear hx hxf hS2 HS hbr
        go_wp2_with fail
        refine HAd.out.mono ?_
        rintro e w3 ⟨rfl, hA3⟩
        have HA3 := Lib.hid hA3
        go_wp2
        go_roundw
        case rel => exact ⟨j + 1, _, hj1, by go_num, HA3, HS2⟩
        case measure => simp [intOf]; omega
      · have HF : Hid (∀ x ∈ f, x ∈ out) := by
          have := HS.out.2
          rw [List.take_of_length_le (by rw [HFL.out]; omega)] at this
          exact this
        have HS0 := Lib.hid HS.out.1
        have g0 : decide (j < n2) = false := decide_eq_false hlt
        obtain ⟨wo, hwo⟩ : ∃ x, x = wr := ⟨wr, rfl⟩
        subst hwo
        clear HS hbr
        go_wp2
        go_loopw [13] (fun i wr => ∃ (j : Nat) (out : List Int), j ≤ out.length ∧ i = .int .i64 j ∧ Hid (AddSt w1 out wr) ∧ Hid (Search a S f out j ∧ ∀ x ∈ f, x ∈ out)) (fun i _ => 256 - (intOf i).toNat)
        case atStart => exact ⟨0, out, Nat.zero_le _, rfl, HA, ⟨HS0.out, HF.out⟩⟩
        case round =>
          obtain ⟨j, out, hj, rfl, HA, HS⟩ := hrel
          obtain ⟨Ao, co, e1, e2, e3, e4, e5⟩ := HA.out
          have hlen := HSl.out _ _ HS.out.1
          obtain ⟨k, hk⟩ : ∃ k, k = out.length := ⟨_, rfl⟩
          have d0 := e2.cell 0
          simp only [List.getElem?_toArray, List.getElem?_cons_zero] at d0
          rw [← hk] at d0 e2 e4 hlen hj
          have HK := Lib.hid hk
          by_cases hlt : j < k
          · obtain ⟨ad, x, rfl, had, hx, cx⟩ := (Reads.of_own e4).num hlt
            have hxb := HS.out.1.begs x (List.mem_of_getElem? hx)
            obtain ⟨s, hs⟩ := begsL_iff.1 hxb
            obtain ⟨hsS, -, hsl⟩ := spotAt_some hs
            have hlk : linksAt a S x = linksL a s := by unfold linksAt; rw [hs]
            have hok := (HMEM.out s hsS).1
            obtain ⟨b, Ah, kh, ch, g1, g2, g3, g4, g5⟩ := HH.out.below e5
            have hAds := HS.out.1.adds (by omega) hx (HLB.out x)
            rw [hlk] at hAds
            have HAds := Lib.hid hAds
            have hEa := each_any 53 (.pointer (some ⟨w1.heap.size + 1, 0, none⟩)) (.pointer (some ⟨w1.heap.size + 1 + 1, 0, none⟩)) gh b w1.heap.size A Ah n c kh ch a S s wr g1 g4 (by rw [hsl]; exact hs) hok ((hr11.below (e5.mono hb1.size)).more hb1.size) hnc hn (plain_of (fn := Try.f53) Try.func53 (by kernel_rfl) (by kernel_rfl))
              (fun v hv => by
                by_cases hv0 : v = 0
                · exact .inl hv0
                · have h1 : v - 1 ∈ linksL a s := List.mem_map.2 ⟨v, List.mem_filter.2 ⟨hv, by simpa using hv0⟩, rfl⟩
                  have := HBB.out _ (HLk.out s hsS _ h1)
                  exact .inr (by omega))
              (fun l w' => (∀ y ∈ l, y ∈ linksL a s) ∧ AddSt w1 (l.foldl addL out) w')
              ⟨by simp, HA.out⟩ (fun l w' q h => ⟨h.1, h.2.drewN q⟩)
              (fun l w' h => by obtain ⟨-, _, _, _, _, _, _, h5⟩ := h; exact (hr11.below (h5.mono hb1.size)).more hb1.size)
              (fun l y w' h hy => by
                have h1 := HBB.out _ (HLk.out s hsS _ hy)
                have h2 := (HAds.out l h.1).1
                refine (add_any w1 (l.foldl addL out) y w' h.2 (by simp [Lit.wf, IntKind.min, IntKind.max, IntKind.signed, IntKind.bits]; omega) (by have := HSl.out _ _ h2; omega)).mono ?_
                rintro e w'' ⟨rfl, h3⟩
                refine ⟨rfl, fun z hz => ?_, by rw [List.foldl_append]; exact h3⟩
                rcases List.mem_append.1 hz with hz | hz
                · exact h.1 z hz
                · simp only [List.mem_cons, List.not_mem_nil, or_false] at hz
                  subst hz; exact hy)
            rw [hsl] at hEa
            have HEa := Lib.hid hEa
            obtain ⟨t1, t2, t3, t4, t5⟩ := hAds (linksL a s) (fun y hy => hy)
            have HS2 : Hid (Search a S f ((linksL a s).foldl addL out) (j + 1) ∧ ∀ y ∈ f, y ∈ (linksL a s).foldl addL out) := ⟨t1.next t5 (by rw [hlk]; exact t4), fun y hy => t3 y (HS.out.2 y hy)⟩
            have hj1 : j + 1 ≤ ((linksL a s).foldl addL out).length := by omega
            have HJ1 := Lib.hid hj1
            clear hx hxb hs hlk hok g1 g4 g5 hAds hEa t1 t2 t3 t4 t5 HS e1 e2 e3 e4 e5 hj1
            go_wp2_with fail
            refine HEa.out.mono ?_
            rintro e w5 ⟨rfl, -, hA5⟩
            have HA5 := Lib.hid hA5
            go_wp2
            go_roundw
            case rel => exact ⟨j + 1, _, HJ1.out, by go_num, HA5, HS2⟩
            case measure => simp [intOf]; omega
          · have hjk : j = k := by omega
            have hso := sort_int _ Ao k co out wr e4 (by omega)
            have HSo := Lib.hid hso
            have HRe : Hid (Reached a S f (sortL out)) := by
              have h1 := HS.out.1
              rw [hjk, hk] at h1
              exact h1.done HS.out.2
            have g2 : decide (j < k) = false := decide_eq_false hlt
            have HB5 := Lib.hid e5
            have hlw := e2.lt
            have HE4 := Lib.hid e4
            have HE2 := Lib.hid e2
            clear hso hjk HS e1 e3 HA hk e5 e4 e2
            go_wp2_with fail
            refine HSo.out.mono ?_
            rintro e w5 ⟨rfl, hown5, hg5⟩
            have e6 := HE2.out.grown hg5 (fun h => own_off HE4.out (by omega) h.symm)
            have p0 := e6.cell 0
            simp only [List.getElem?_toArray, List.getElem?_cons_zero] at p0
            have hbz := HB5.out.grown hg5 HB5.out.size (fun g hg => by have := (HE4.out.lt g hg).1; omega)
            have HO5 := Lib.hid (own_mono (base := w.heap.size) hown5 (by have := hb1.size; omega))
            have HL : Hid (k = (sortL out).length) := by show _ = _; rw [sortL_length]; exact HK.out
            clear hown5 hg5 e6
            go_wp2
            go_ret2
            refine ⟨below_step hb1 hbz, .inl ⟨sortL out, Ao, co, HRe.out, ?_, ?_⟩⟩
            · rw [← HL.out]; rfl
            · rw [← HL.out]; exact HO5.out
  · have HEX := Lib.hid hex
    clear hex
    go_wp2
    go_ret2
    exact ⟨hb1, .inr ⟨HEX.out, rfl⟩⟩
end Go.Proofs.Ytgkoaambdejkdaa

namespace Go.Proofs.Ytgkoaambdejkdaa
open Go.RowKit
set_option maxRecDepth 100000 in
set_option maxHeartbeats 1000000 in
theorem indexIntF_any (F : Nat) (cap : Value) (A : Option Addr) (n c B : Nat) (l : List Int) (p : Int → Bool) (w : World) (hr : Reads w B 1 A n (l.map (.int .i64))) (hB : B ≤ w.heap.size) (hn : n ≤ 1000000000000000000) (hP : Plain Try.prog F)
    (HC : ∀ (w' : World) (x : Int), Below w.heap.size w w' → x ∈ l → Calls Try.prog F #[.int .i64 x, cap] w' fun e w'' => e = .returned (.bool (p x)) ∧ Below w'.heap.size w' w'') :
    Calls Try.prog 58 #[.slice A n c, .func (.func F) #[] #[cap]] w fun e w' => e = .returned (.int .i64 (ixOf p l)) ∧ Below w.heap.size w w' := by
  have hll : l.length = n := by have := hr.1; simpa using this
  have HL := Lib.hid hll
  have HC := Lib.hid HC
  have hcf := fun (x : Value) (w : World) => hP #[x, cap] w
  clear hll hP
  go_enter Try.func58, Try.ntmps58
  go_wp2
  go_loopw [5, 8] (fun _ i wr => ∃ j : Nat, j ≤ n ∧ i = .int .i64 j ∧ Below w.heap.size w wr ∧ Hid (∀ x ∈ l.take j, p x = false)) (fun _ i _ => n - (intOf i).toNat)
  case atStart => exact ⟨0, Nat.zero_le _, rfl, Below.refl _ _, by intro x hx; simp at hx⟩
  case round =>
    obtain ⟨j, hj, rfl, hb, HD⟩ := hrel
    by_cases hlt : j < n
    · obtain ⟨ad, s, rfl, had, hs, c0⟩ := (hr.below (hb.mono hB)).num hlt
      have HS := Lib.hid hs
      have HQ := Lib.hid (HC.out wr s hb (List.mem_of_getElem? hs))
      clear hs
      cases hp : p s
      · have HF := Lib.hid hp
        clear hp
        go_wp2_with fail
        refine HQ.out.mono ?_
        rw [HF.out]
        rintro e w1 ⟨rfl, hb1⟩
        go_wp2
        go_roundw
        case rel => exact ⟨j + 1, by omega, by go_num, hb.trans (hb1.mono hb.size), fun x hx => by
          rcases take_succ_mem HS.out x hx with h | rfl
          · exact HD.out x h
          · exact HF.out⟩
        case measure => simp [intOf]; omega
      · have HF := Lib.hid hp
        clear hp
        go_wp2_with fail
        refine HQ.out.mono ?_
        rw [HF.out]
        rintro e w1 ⟨rfl, hb1⟩
        go_wp2
        go_ret
        exact ⟨ret_int (ixOf_some HS.out HF.out HD.out).symm, hb.trans (hb1.mono hb.size)⟩
    · go_wp2
      go_ret
      exact ⟨ret_int (ixOf_none (by have := HD.out; rwa [List.take_of_length_le (by rw [HL.out]; omega)] at this)).symm, hb⟩
theorem containsIntF_any (F : Nat) (cap : Value) (A : Option Addr) (n c B : Nat) (l : List Int) (p : Int → Bool) (w : World) (hr : Reads w B 1 A n (l.map (.int .i64))) (hB : B ≤ w.heap.size) (hn : n ≤ 1000000000000000000) (hP : Plain Try.prog F)
    (HC : ∀ (w' : World) (x : Int), Below w.heap.size w w' → x ∈ l → Calls Try.prog F #[.int .i64 x, cap] w' fun e w'' => e = .returned (.bool (p x)) ∧ Below w'.heap.size w' w'') :
    Calls Try.prog 22 #[.slice A n c, .func (.func F) #[] #[cap]] w fun e w' => e = .returned (.bool (l.any p)) ∧ Below w.heap.size w w' := by
  have H := Lib.hid (indexIntF_any F cap A n c B l p w hr hB hn hP HC)
  have hd := ixOf_nonneg p l
  rw [← hd]
  generalize ixOf p l = i at *
  clear HC hd
  go_enter Try.func22, Try.ntmps22
  go_wp2_with fail
  refine H.out.mono ?_
  rintro e w1 ⟨rfl, hb⟩
  go_wp2
  go_ret
  exact ⟨rfl, hb⟩
end Go.Proofs.Ytgkoaambdejkdaa

namespace Go.Proofs.Ytgkoaambdejkdaa
open Go.RowKit
set_option maxHeartbeats 400000 in
theorem index_int (A : Option Addr) (n c B : Nat) (xs : List Int) (v : Int) (w : World) (hr : Reads w B 1 A n (xs.map (.int .i64))) (hn : n ≤ 1000000000000000000) :
    Calls Try.prog 57 #[.slice A n c, .int .i64 v] w fun e w' => e = .returned (.int .i64 (ixOf (fun x => v == x) xs)) ∧ w = w' := by
  have hxl : xs.length = n := by have := hr.1; simpa using this
  have HX := Lib.hid hxl
  clear hxl
  go_enter Try.func57, Try.ntmps57
  go_wp2
  go_loop [8] (fun i => ∃ j : Nat, j ≤ n ∧ i = .int .i64 j ∧ ∀ x ∈ xs.take j, (v == x) = false) (fun i => n - (intOf i).toNat)
  case atStart => exact ⟨0, Nat.zero_le _, rfl, by simp⟩
  case round =>
    obtain ⟨j, hj, rfl, ht⟩ := hrel
    have HT := Lib.hid ht
    clear ht
    by_cases hlt : j < n
    · obtain ⟨ad, x, rfl, _, hx, hc⟩ := hr.num hlt
      have HS := Lib.hid hx
      clear hx
      cases he : (v == x)
      · have HE := Lib.hid he
        go_wp2
        go_round
        case rel => exact ⟨j + 1, by omega, by go_num, fun y hy => by
          rcases take_succ_mem HS.out y hy with h | rfl
          · exact HT.out y h
          · exact HE.out⟩
        case measure => simp [intOf]; omega
      · have HE := Lib.hid he
        go_wp2
        go_ret
        exact ⟨ret_int (ixOf_some HS.out HE.out HT.out).symm, rfl⟩
    · go_wp2
      go_ret
      exact ⟨ret_int (ixOf_none (by have := HT.out; rwa [List.take_of_length_le (by rw [HX.out]; omega)] at this)).symm, rfl⟩
theorem contains_int (A : Option Addr) (n c B : Nat) (xs : List Int) (v : Int) (b : Bool) (w : World) (hr : Reads w B 1 A n (xs.map (.int .i64))) (hn : n ≤ 1000000000000000000) (hb : decide (v ∈ xs) = b) :
    Calls Try.prog 20 #[.slice A n c, .int .i64 v] w fun e w' => e = .returned (.bool b) ∧ w = w' := by
  have H := index_int A n c B xs v w hr hn
  have hq := ixOf_nonneg (fun x => v == x) xs
  rw [any_eq_mem, hb] at hq
  generalize ixOf (fun x => v == x) xs = i at *
  have HH := Lib.hid H
  have HQ := Lib.hid hq
  clear H hq hb
  go_enter Try.func20, Try.ntmps20
  go_wp2_with (go_at_call 57; refine HH.out.mono ?_; rintro e w' ⟨rfl, rfl⟩)
  go_ret
  exact ⟨by rw [← HQ.out]; rfl, rfl⟩
end Go.Proofs.Ytgkoaambdejkdaa

namespace Go.Proofs.Ytgkoaambdejkdaa
open Go.RowKit
set_option maxHeartbeats 400000 in
theorem withinF_any (A : Option Addr) (n c B : Nat) (r : List Int) (x : Int) (g : Nat) (w : World) (hr : Reads w B 1 A n (r.map (.int .i64))) (hn : n ≤ 1000000000000000000) (hc : w.cell? ⟨g, 0, none⟩ = some (.slice A n c)) :
    Calls Try.prog 42 #[.int .i64 x, .pointer (some ⟨g, 0, none⟩)] w fun e w' => e = .returned (.bool (!decide (x ∈ r))) ∧ Below w.heap.size w w' := by
  cases hm : decide (x ∈ r)
  · have H := Lib.hid (contains_int A n c B r x false w hr hn hm)
    clear hm hr
    go_enter Try.func42, Try.ntmps42
    go_wp2_with (go_at_call 20; refine H.out.mono ?_; rintro e w' ⟨rfl, rfl⟩)
    go_ret
    exact ⟨by first | rfl | simp, Below.refl _ _⟩
  · have H := Lib.hid (contains_int A n c B r x true w hr hn hm)
    clear hm hr
    go_enter Try.func42, Try.ntmps42
    go_wp2_with (go_at_call 20; refine H.out.mono ?_; rintro e w' ⟨rfl, rfl⟩)
    go_ret
    exact ⟨by first | rfl | simp, Below.refl _ _⟩
theorem within_law {l all : List Int} : (l.any fun x => !decide (x ∈ all)) = !decide (∀ x ∈ l, x ∈ all) := by
  by_cases h : ∀ x ∈ l, x ∈ all
  · rw [decide_eq_true h, List.any_eq_false.2 (fun x hx => by simp [h x hx])]
    rfl
  · rw [decide_eq_false h]
    simp only [Bool.not_false, List.any_eq_true]
    obtain ⟨x, hx⟩ : ∃ x, ¬ (x ∈ l → x ∈ all) := Classical.not_forall.1 h
    have h2 := Classical.not_imp.1 hx
    exact ⟨x, h2.1, by simp [h2.2]⟩
set_option maxHeartbeats 400000 in
theorem within_two (A A2 : Option Addr) (n c n2 c2 : Nat) (l all : List Int) (b : Bool) (w : World) (hr : Reads w w.heap.size 1 A n (l.map (.int .i64))) (hn : n ≤ 1000000000000000000) (hr2 : Reads w w.heap.size 1 A2 n2 (all.map (.int .i64))) (hn2 : n2 ≤ 1000000000000000000) (hb : decide (∀ x ∈ l, x ∈ all) = b) :
    Calls Try.prog 12 #[.slice A n c, .slice A2 n2 c2] w fun e w' => e = .returned (.bool b) ∧ Below w.heap.size w w' := by
  have hb0 := below_new w (.cells #[.slice A2 n2 c2] 23)
  have B0 := Blk.new w 23 #[.slice A2 n2 c2]
  have HC := containsIntF_any 42 (.pointer (some ⟨w.heap.size, 0, none⟩)) A n c _ l (fun x => !decide (x ∈ all)) _ (hr.below hb0) hb0.size hn (plain_of (fn := Try.f42) Try.func42 (by kernel_rfl) (by kernel_rfl)) (fun w' x hb' _ =>
    withinF_any A2 n2 c2 _ all x w.heap.size w' ((hr2.below hb0).below (hb'.mono hb0.size)) hn2 ((B0.below hb' B0.lt).cell 0))
  rw [within_law, hb] at HC
  have HC := Lib.hid HC
  clear hb hr hr2
  go_enter Try.func12, Try.ntmps12
  go_wp2_with fail
  refine HC.out.mono ?_
  rintro e w1 ⟨rfl, hb1⟩
  go_wp2
  go_ret
  exact ⟨by first | rfl | simp, below_step hb0 hb1⟩
set_option maxRecDepth 100000 in
set_option maxHeartbeats 1000000 in
theorem begins_any (A : Option Addr) (n c : Nat) (a : List Int) (w : World) (hr : Reads w w.heap.size 1 A n (a.map (.int .u64))) (ha : ∀ x ∈ a, (Lit.int .u64 x).wf = true) :
    Calls Try.prog 14 #[.slice A n c] w fun e w' => Below w.heap.size w w' ∧ ∃ A' c', e = .returned (.slice A' (begsL (spotsL a)).length c') ∧ w'.ownsRow w.heap.size 3 1 (.slice A' (begsL (spotsL a)).length c') (begsL (spotsL a)).length ((begsL (spotsL a)).map (.int .i64)) := by
  have H := Lib.hid (fun w hr => spots_any A n c a w hr ha)
  have hm256 := spotsL_length a
  generalize spotsL a = S at *
  generalize spotsE a = E at *
  obtain ⟨m, hm⟩ : ∃ m, m = S.length := ⟨_, rfl⟩
  rw [← hm] at H hm256
  have HM := Lib.hid hm
  obtain ⟨i0, hi, hz0, hz1, hz2⟩ := info_parts info_int
  clear hm ha
  go_enter Try.func14, Try.ntmps14
  go_wp2_with fail
  refine (H.out _ hr).mono ?_
  rintro e w1 ⟨hb1, A1, c1, rfl, hown⟩
  have hrS := Reads.of_own hown
  clear hown
  go_wp2
  go_loopw [5, 15] (fun o i wr => ∃ (j k co : Nat) (Ao : Option Addr), j ≤ m ∧ i = .int .i64 j ∧ o = .slice Ao k co ∧ k ≤ j ∧ Hid (k = (begsL (S.take j)).length) ∧ wr.ownsRow w1.heap.size 3 1 (.slice Ao k co) k ((begsL (S.take j)).map (.int .i64)) ∧ Below w1.heap.size w1 wr) (fun _ i _ => m - (intOf i).toNat)
  case atStart => exact ⟨0, 0, 0, none, Nat.zero_le _, rfl, rfl, Nat.zero_le _, rfl, World.ownsRow_nil _ _ _ _, Below.refl _ _⟩
  case round =>
    obtain ⟨j, k, co, Ao, hj, rfl, rfl, hkj, HK, HO, hb⟩ := hrel
    by_cases hlt : j < m
    · obtain ⟨ad, s, rfl, had, hs, c0, c1', c2, c3, c4⟩ := (hrS.below hb).spot hlt
      have HT : Hid (S.take (j + 1) = S.take j ++ [s]) := by
        show _ = _
        obtain ⟨h1, rfl⟩ := List.getElem?_eq_some_iff.1 hs
        exact List.take_succ_eq_append_getElem h1
      have HB := Lib.hid (begsL_snoc (S.take j) s)
      rw [← HT.out] at HB
      obtain ⟨loc, r, b, t, fr⟩ := s
      dsimp only at c0 c1' c2 c3 c4
      have hj1 : j + 1 ≤ m := hlt
      have hbx := hb.alloc hb.size (.cells #[.int .i64 loc, .int .i64 r, .int .i64 b, .int .i64 t, .bool fr] 89)
      have HOx := HO.alloc (.cells #[.int .i64 loc, .int .i64 r, .int .i64 b, .int .i64 t, .bool fr] 89)
      have hws := hb.size
      clear hs HO
      cases fr
      · have hOy := HOx.alloc (.cells #[.int .i64 loc] 3)
        have hby := hbx.alloc hbx.size (.cells #[.int .i64 loc] 3)
        have hrn := reads_new (wr.alloc (.cells #[.int .i64 loc, .int .i64 r, .int .i64 b, .int .i64 t, .bool false] 89)) [.int .i64 loc] 3 1 1 rfl
        simp only [World.size_alloc] at hrn
        clear HOx
        go_wp2_with (at_builtin; refine wpList_append_any _ rfl (.tmp 23) (.tmp 26) 23 rfl w1.heap.size 3 i0 (.int .i64 0) 1 8 Try.underlying23 hi hz0 hz1 hz2 rfl (by decide) (.slice Ao k co) k _ rfl hOy _ (some ⟨wr.heap.size + 1, 0, none⟩) 1 1 [.int .i64 loc] rfl hrn (by simp [Value.oneCell']) (by unfold maxLen; omega) (by omega) (by simp; omega) ?_; rintro v' w3 hown3 hgr - -; obtain ⟨A5, c5, rfl⟩ := own_slice hown3)
        go_roundw
        case rel =>
          refine ⟨j + 1, k + 1, c5, A5, hj1, by go_num, rfl, by omega, ?_, ?_, hby.grown hgr hby.size (fun g hg => by have := (hOy.lt g hg).1; omega)⟩
          · show _ = _
            rw [HB.out, if_neg (by simp), List.length_append, ← HK.out]
            rfl
          · rw [HB.out, if_neg (by simp), List.map_append]
            exact hown3
        case measure => simp [intOf]; omega
      · go_wp2
        go_roundw
        case rel =>
          refine ⟨j + 1, k, co, Ao, hj1, by go_num, rfl, by omega, ?_, ?_, hbx⟩
          · show _ = _
            rw [HB.out, if_pos rfl]
            exact HK.out
          · rw [HB.out, if_pos rfl]
            exact HOx
        case measure => simp [intOf]; omega
    · have hjm : j = m := by omega
      rw [hjm, List.take_of_length_le (by rw [HM.out]; exact Nat.le_refl _)] at HK HO
      have HO2 := Lib.hid (own_mono HO hb1.size)
      have g0 : decide (j < m) = false := decide_eq_false hlt
      clear hjm HO
      go_wp2
      go_ret
      exact ⟨below_step hb1 hb, Ao, co, by rw [← HK.out]; rfl, by rw [← HK.out]; exact HO2.out⟩
theorem spotAt_ix {a : List Int} (h0 : spotsE a = 0) {x : Int} {s : Spot} (h : spotAt (spotsL a) x = some s) : ∃ i : Nat, atIx a x = i ∧ (spotsL a)[i]? = some s := by
  obtain ⟨h1, -, rfl⟩ := spotAt_some h
  obtain ⟨i, hi⟩ := List.mem_iff_getElem?.1 h1
  refine ⟨i, ?_, hi⟩
  unfold atIx
  refine ixOf_some hi (by simp) (fun y hy => ?_)
  rw [List.mem_take_iff_getElem] at hy
  obtain ⟨j, hj, rfl⟩ := hy
  obtain ⟨q1, rfl⟩ := List.getElem?_eq_some_iff.1 hi
  have := List.pairwise_iff_getElem.1 (spots_rise h0) j i (by omega) q1 (by omega)
  simp only [beq_eq_false_iff_ne]
  omega
end Go.Proofs.Ytgkoaambdejkdaa

namespace Go.Proofs.Ytgkoaambdejkdaa
open Go.RowKit
def Named (a : List Int) (S : List Spot) (f out : List Int) : Prop := ∀ (i : Nat) (x : Int), out[i]? = some x → x ∈ f ∨ ∃ (j : Nat) (y : Int), j < i ∧ out[j]? = some y ∧ x ∈ linksAt a S y
theorem Named.add {a : List Int} {S : List Spot} {f out : List Int} {x : Int} (h : Named a S f out) (hx : x ∈ f ∨ ∃ (j : Nat) (y : Int), j < out.length ∧ out[j]? = some y ∧ x ∈ linksAt a S y) : Named a S f (addL out x) := by
  unfold addL
  split
  · exact h
  · intro i z hz
    by_cases hi : i < out.length
    · rw [List.getElem?_append_left hi] at hz
      rcases h i z hz with h1 | ⟨j, y, h1, h2, h3⟩
      · exact .inl h1
      · exact .inr ⟨j, y, h1, by rw [List.getElem?_append_left (by omega)]; exact h2, h3⟩
    · rw [List.getElem?_append_right (by omega)] at hz
      obtain ⟨q1, q2⟩ := List.getElem?_eq_some_iff.1 hz
      simp only [List.length_singleton] at q1
      have q3 : i - out.length = 0 := by omega
      simp only [q3, List.getElem_cons_zero] at q2
      subst q2
      rcases hx with h1 | ⟨j, y, h1, h2, h3⟩
      · exact .inl h1
      · exact .inr ⟨j, y, by omega, by rw [List.getElem?_append_left h1]; exact h2, h3⟩
theorem Named.adds {a : List Int} {S : List Spot} {f : List Int} {i : Nat} {x : Int} : ∀ {out : List Int} (l : List Int), Named a S f out → out[i]? = some x → (∀ y ∈ l, y ∈ linksAt a S x) → Named a S f (l.foldl addL out)
  | _, [], h, _, _ => h
  | out, y :: l, h, hx, hl => by
    have hi := (List.getElem?_eq_some_iff.1 hx).1
    have h1 := h.add (x := y) (.inr ⟨i, x, hi, hx, hl y List.mem_cons_self⟩)
    have hx1 : (addL out y)[i]? = some x := by
      unfold addL
      split
      · exact hx
      · rw [List.getElem?_append_left hi]; exact hx
    exact Named.adds l h1 hx1 (fun z hz => hl z (List.mem_cons_of_mem _ hz))
def ComeSt (w0 : World) (out : List Int) (w : World) : Prop :=
  ∃ Ao co, Blk w w0.heap.size 23 #[.slice Ao out.length co] ∧ w.ownsRow (w0.heap.size + 1) 3 1 (.slice Ao out.length co) out.length (out.map (.int .i64)) ∧ Below w0.heap.size w0 w
theorem ComeSt.below {w0 w w' : World} {out : List Int} (h : ComeSt w0 out w) (hb : Below w.heap.size w w') : ComeSt w0 out w' := by
  obtain ⟨Ao, co, h1, h2, h3⟩ := h
  exact ⟨Ao, co, h1.below hb h1.lt, own_below h2 hb, h3.trans (hb.mono h3.size)⟩
def bfsL (a : List Int) (S : List Spot) (f : List Int) : Nat → List Int
  | 0 => f.foldl addL []
  | i + 1 => match (bfsL a S f i)[i]? with | some x => (linksAt a S x).foldl addL (bfsL a S f i) | none => bfsL a S f i
theorem bfsL_still {a : List Int} {S : List Spot} {f : List Int} {n : Nat} (h : (bfsL a S f n).length ≤ n) : ∀ m, n ≤ m → bfsL a S f m = bfsL a S f n := by
  intro m hm
  induction m with
  | zero => have : n = 0 := by omega
            subst this; rfl
  | succ m ih =>
    by_cases he : n = m + 1
    · subst he; rfl
    · have h1 := ih (by omega)
      show (match (bfsL a S f m)[m]? with | some x => (linksAt a S x).foldl addL (bfsL a S f m) | none => bfsL a S f m) = _
      rw [h1, List.getElem?_eq_none (by omega)]
theorem bfsL_unique {a : List Int} {S : List Spot} {f L L' : List Int} (h : L = bfsL a S f L.length) (h' : L' = bfsL a S f L'.length) : L = L' := by
  rcases Nat.le_total L.length L'.length with hl | hl
  · have h1 := bfsL_still (a := a) (S := S) (f := f) (n := L.length) (by rw [← h]; exact Nat.le_refl _) _ hl
    rw [h', h1]; exact h
  · have h1 := bfsL_still (a := a) (S := S) (f := f) (n := L'.length) (by rw [← h']; exact Nat.le_refl _) _ hl
    rw [h, h1]; exact h'.symm
structure Ordered (a : List Int) (S : List Spot) (f out : List Int) : Prop where
  search : Search a S f out out.length
  roots : ∀ x ∈ f, x ∈ out
  named : Named a S f out
  fn : out = bfsL a S f out.length
end Go.Proofs.Ytgkoaambdejkdaa

namespace Go.Proofs.Ytgkoaambdejkdaa
open Go.RowKit
def idxL (L : List Int) (y : Int) : Int := ixOf (fun x => y == x) L
def formO (a : List Int) (S : List Spot) (L : List Int) (x : Int) : Ob :=
  match spotAt S x with | some s => ⟨s.t, (refsOf a s).map (fun v => idxL L (v - 1)), bodyOf a s, s.f⟩ | none => ⟨0, [], [], false⟩
def FormIs (a f : List Int) (os : List Ob) (fr : List Int) : Prop :=
  ∃ L, Ordered a (spotsL a) f L ∧ os = L.map (formO a (spotsL a) L) ∧ fr = f.map (idxL L)
theorem FormIs.unique {a f : List Int} {os os' : List Ob} {fr fr' : List Int} (h : FormIs a f os fr) (h' : FormIs a f os' fr') : os = os' ∧ fr = fr' := by
  obtain ⟨L, h1, h2, h3⟩ := h
  obtain ⟨L', h1', h2', h3'⟩ := h'
  have e : L = L' := bfsL_unique h1.fn h1'.fn
  subst e
  exact ⟨h2.trans h2'.symm, h3.trans h3'.symm⟩
theorem set_mid {α : Type} (P T : List α) (q : Nat) (v : α) (hq : P.length = q) (hT : q < T.length) : (P ++ T.drop q).set q v = (P ++ [v]) ++ T.drop (q + 1) := by
  rw [List.set_append_right _ _ (by omega), hq, Nat.sub_self, List.drop_eq_getElem_cons hT, List.set_cons_zero]
  simp
theorem own_setK {w : World} {base g n c k : Nat} {e : TypeId} {xs : List Value} (h : w.ownsRow base e k (.slice (some ⟨g, 0, none⟩) n c) n xs) (j : Nat) (u : Value) :
    (w.setCell ⟨g, j, none⟩ u).ownsRow base e k (.slice (some ⟨g, 0, none⟩) n c) n (xs.set j u) := by
  obtain ⟨cur, hb, hg, hc, hm, hl, ht⟩ := own_open h
  have hB : Blk w g e cur.toArray := hg
  have hB2 := hB.set_ j u
  simp only [List.setIfInBounds_toArray] at hB2
  have := own_close (size := k) (n := n) (c := c) (cur.set j u) hb hB2 hc hm (by rw [List.length_set]; exact hl)
  rw [List.take_set, ht] at this
  exact this
theorem ObsO.far {w : World} {base : Nat} {os : List Ob} {vs : List ObV} (h : ObsO w base os vs) {p : Addr} (hp : p.block < base) (u : Value) : ObsO (w.setCell p u) base os vs :=
  ⟨h.1, fun i o v ho hv => by
    obtain ⟨h1, h2, h3, h4, h5, h6⟩ := h.2 i o v ho hv
    exact ⟨h1, h2, h3, h4, own_far h5 hp u, own_far h6 hp u⟩⟩
theorem ObsO.top {w : World} {base : Nat} {os : List Ob} {vs : List ObV} (h : ObsO w base os vs) : ∀ v ∈ vs, ∀ g, ((Value.slice v.A1 v.n1 v.c1).ownBlock = some g ∨ (Value.slice v.A2 v.n2 v.c2).ownBlock = some g) → g < w.heap.size := by
  intro v hv g hg
  obtain ⟨i, hi⟩ := List.mem_iff_getElem?.1 hv
  have hl : i < os.length := by rw [h.1]; exact (List.getElem?_eq_some_iff.1 hi).1
  obtain ⟨-, -, -, -, h5, h6⟩ := h.2 i _ v (List.getElem?_eq_getElem hl) hi
  rcases hg with hg | hg
  · exact (h5.lt g hg).2
  · exact (h6.lt g hg).2
theorem ObsO.apart {w w' : World} {base : Nat} {os : List Ob} {vs : List ObV} {row : Option Nat} (h : ObsO w base os vs) (hg : w.grownBy w' row) (hne : ∀ v ∈ vs, ∀ g, ((Value.slice v.A1 v.n1 v.c1).ownBlock = some g ∨ (Value.slice v.A2 v.n2 v.c2).ownBlock = some g) → row ≠ some g) : ObsO w' base os vs :=
  ⟨h.1, fun i o v ho hv => by
    obtain ⟨h1, h2, h3, h4, h5, h6⟩ := h.2 i o v ho hv
    have hm := List.mem_of_getElem? hv
    exact ⟨h1, h2, h3, h4, own_grown h5 hg (fun g hg' => hne v hm g (.inl hg')), own_grown h6 hg (fun g hg' => hne v hm g (.inr hg'))⟩⟩
theorem ObsO.drew {w : World} {base : Nat} {os : List Ob} {vs : List ObV} (h : ObsO w base os vs) : ObsO w.drew base os vs :=
  ⟨h.1, fun i o v ho hv => by
    obtain ⟨h1, h2, h3, h4, h5, h6⟩ := h.2 i o v ho hv
    exact ⟨h1, h2, h3, h4, h5.drew, h6.drew⟩⟩
end Go.Proofs.Ytgkoaambdejkdaa

namespace Go.Proofs.Ytgkoaambdejkdaa
open Go.RowKit
theorem rdw_word (r b t : Int) (f : Bool) (h : headE r b t f = 0) : readOk (wordOf r b t f) ∧ rdR (wordOf r b t f) = r ∧ rdB (wordOf r b t f) = b ∧ rdT (wordOf r b t f) = t ∧ rdF (wordOf r b t f) = f ∧ 0 ≤ wordOf r b t f ∧ wordOf r b t f < 18446744073709551616 := by
  obtain ⟨h1, h2, h3, h4, h5, h6, h7, h8⟩ := headE_ok.1 h
  have hF : (if f then 281474976710656 else 0 : Int) = 0 ∧ f = false ∨ (if f then 281474976710656 else 0 : Int) = 281474976710656 ∧ f = true := by cases f <;> simp
  have e1 : rdR (wordOf r b t f) = r := by unfold rdR wordOf; rcases hF with ⟨h, _⟩ | ⟨h, _⟩ <;> rw [h] <;> omega
  have e2 : rdB (wordOf r b t f) = b := by unfold rdB wordOf; rcases hF with ⟨h, _⟩ | ⟨h, _⟩ <;> rw [h] <;> omega
  have e3 : rdT (wordOf r b t f) = t := by unfold rdT wordOf; rcases hF with ⟨h, _⟩ | ⟨h, _⟩ <;> rw [h] <;> omega
  have e4 : rdF (wordOf r b t f) = f := by
    unfold rdF wordOf
    rcases hF with ⟨h, h'⟩ | ⟨h, h'⟩
    · rw [h, h', decide_eq_false]; omega
    · rw [h, h', decide_eq_true]; omega
  have e5 : 0 ≤ wordOf r b t f ∧ wordOf r b t f < 562949953421312 := by unfold wordOf; rcases hF with ⟨h, _⟩ | ⟨h, _⟩ <;> rw [h] <;> omega
  refine ⟨⟨by omega, by rw [e1, e2, e3, e4]; exact h⟩, e1, e2, e3, e4, e5.1, by omega⟩
structure Chk where
  r : Int
  b : Int
  t : Int
  f : Bool
  pay : List Int
def Chk.ok (c : Chk) : Prop := headE c.r c.b c.t c.f = 0 ∧ (c.pay.length : Int) = c.r + c.b
def chkW (c : Chk) : List Int := wordOf c.r c.b c.t c.f :: c.pay
def chunksW (cs : List Chk) : List Int := cs.flatMap chkW
def Chk.spot (i : Nat) (c : Chk) : Spot := ⟨i, c.r, c.b, c.t, c.f⟩
def Chk.len (c : Chk) : Nat := 1 + c.pay.length
def spotsFrom : Nat → List Chk → List Spot
  | _, [] => []
  | i, c :: cs => c.spot i :: spotsFrom (i + c.len) cs
theorem chkW_length (c : Chk) : (chkW c).length = c.len := by simp [chkW, Chk.len]; omega
theorem chunksW_cons (c : Chk) (cs : List Chk) : chunksW (c :: cs) = chkW c ++ chunksW cs := rfl
theorem chunksW_append (cs ds : List Chk) : chunksW (cs ++ ds) = chunksW cs ++ chunksW ds := by simp [chunksW]
theorem Chk.long {c : Chk} (h : c.ok) (i : Nat) : (c.spot i).long = c.len := by
  have := h.2
  simp only [Spot.long, Chk.spot, Chk.len]
  omega
theorem parse_chunks {a : List Int} : ∀ {l : List Spot} {i : Nat}, Parse a i l → ∃ cs : List Chk, (∀ c ∈ cs, c.ok) ∧ a.drop i = chunksW cs ∧ l = spotsFrom i cs := by
  intro l
  induction l with
  | nil =>
    intro i h
    obtain rfl : i = a.length := h
    exact ⟨[], by simp, by simp [chunksW], rfl⟩
  | cons s l ih =>
    rintro i ⟨h1, h2, rfl, h4, h5⟩
    obtain ⟨cs, hok, hd, rfl⟩ := ih h5
    have hE := headE_ok.1 h2.2
    have hl : hlen (a.getD i 0) = 1 + (rdR (a.getD i 0) + rdB (a.getD i 0)).toNat := by unfold hlen; omega
    have hv : a[i] = a.getD i 0 := by rw [List.getD_eq_getElem?_getD, List.getElem?_eq_getElem h1]; rfl
    have hdrop := List.drop_eq_getElem_cons h1
    have hw := readOk_word h2
    rw [hv] at hdrop
    generalize a.getD i 0 = v at *
    have hpl : ((a.drop (i + 1)).take (hlen v - 1)).length = hlen v - 1 := by rw [List.length_take, List.length_drop]; omega
    have hcl : Chk.len ⟨rdR v, rdB v, rdT v, rdF v, (a.drop (i + 1)).take (hlen v - 1)⟩ = hlen v := by
      unfold Chk.len
      rw [hpl]
      omega
    refine ⟨⟨rdR v, rdB v, rdT v, rdF v, (a.drop (i + 1)).take (hlen v - 1)⟩ :: cs, ?_, ?_, ?_⟩
    · intro c hc
      rcases List.mem_cons.1 hc with rfl | hc
      · refine ⟨h2.2, ?_⟩
        dsimp only
        rw [hpl]
        omega
      · exact hok c hc
    · rw [chunksW_cons, chkW]
      dsimp only
      rw [hw, ← hd, hdrop, List.cons_append]
      congr 1
      have h9 := List.take_append_drop (hlen v - 1) (a.drop (i + 1))
      rw [List.drop_drop, show i + 1 + (hlen v - 1) = i + hlen v by omega] at h9
      exact h9.symm
    · simp only [spotsFrom]
      rw [hcl]
      rfl
theorem chunks_parse : ∀ (cs : List Chk) (pre : List Int), (∀ c ∈ cs, c.ok) → Parse (pre ++ chunksW cs) pre.length (spotsFrom pre.length cs) := by
  intro cs
  induction cs with
  | nil => intro pre _; show _ = _; simp [chunksW]
  | cons c cs ih =>
    intro pre hok
    have hc := hok c List.mem_cons_self
    obtain ⟨w1, w2, w3, w4, w5, -⟩ := rdw_word c.r c.b c.t c.f hc.1
    have hg : (pre ++ chunksW (c :: cs)).getD pre.length 0 = wordOf c.r c.b c.t c.f := by
      rw [List.getD_eq_getElem?_getD, chunksW_cons, chkW, List.getElem?_append_right (Nat.le_refl _)]
      simp
    have hE := headE_ok.1 hc.1
    have hh : hlen (wordOf c.r c.b c.t c.f) = c.len := by
      have := hc.2
      unfold hlen Chk.len
      rw [w2, w3]
      omega
    have hL : (pre ++ chunksW (c :: cs)).length = pre.length + c.len + (chunksW cs).length := by rw [chunksW_cons, List.length_append, List.length_append, chkW_length]; omega
    have hpos : 1 ≤ c.len := by unfold Chk.len; omega
    refine ⟨by rw [hL]; omega, by rw [hg]; exact w1, ?_, by rw [hg, hh, hL]; omega, ?_⟩
    · rw [hg]
      simp only [spotOf, Chk.spot]
      rw [w2, w3, w4, w5]
    · rw [hg, hh]
      have := ih (pre ++ chkW c) (fun d hd => hok d (List.mem_cons_of_mem _ hd))
      rw [List.length_append, chkW_length, List.append_assoc] at this
      exact this
theorem chunks_spots {cs : List Chk} (hok : ∀ c ∈ cs, c.ok) (hl : (chunksW cs).length ≤ 256) : spotsE (chunksW cs) = 0 ∧ spotsL (chunksW cs) = spotsFrom 0 cs := by
  have h := spotsAt_parse _ _ _ (chunks_parse cs [] hok)
  simp only [List.nil_append, List.length_nil] at h
  have hn : ¬ 256 < (chunksW cs).length := by omega
  unfold spotsE spotsL
  rw [h, if_neg hn, if_neg hn]
  exact ⟨rfl, rfl⟩
theorem arena_chunks {a : List Int} (h : spotsE a = 0) : ∃ cs : List Chk, (∀ c ∈ cs, c.ok) ∧ a = chunksW cs ∧ spotsL a = spotsFrom 0 cs ∧ a.length ≤ 256 := by
  obtain ⟨h1, h2⟩ := parse_ok h
  obtain ⟨cs, hok, hd, hs⟩ := parse_chunks h2
  exact ⟨cs, hok, by simpa using hd, hs, h1⟩
def starts : Nat → List Chk → List Int
  | _, [] => []
  | i, c :: cs => (if c.f then [] else [(i : Int) + 1]) ++ starts (i + c.len) cs
theorem placeC_some {l : List Spot} {v : Int} : (placeF l v).isSome = true ↔ v = 0 ∨ ∃ s ∈ l, isPlace v s = true := by
  unfold placeF
  by_cases h : v = 0
  · simp [h]
  · rw [if_neg h, Option.isSome_map]
    rw [List.findIdx?_isSome]
    simp [h]
theorem starts_mem {v : Int} : ∀ (cs : List Chk) (i : Nat), (∃ s ∈ spotsFrom i cs, isPlace v s = true) ↔ v ∈ starts i cs := by
  intro cs
  induction cs with
  | nil => intro i; simp [spotsFrom, starts]
  | cons c cs ih =>
    intro i
    simp only [spotsFrom, starts, List.mem_cons, List.mem_append]
    rw [← ih (i + c.len)]
    constructor
    · rintro ⟨s, rfl | hs, hp⟩
      · left
        simp only [isPlace, Chk.spot, Bool.and_eq_true, Bool.not_eq_true', beq_iff_eq] at hp
        rw [hp.1, if_neg (by decide)]
        rw [List.mem_singleton, hp.2]
      · right; exact ⟨s, hs, hp⟩
    · rintro (h | ⟨s, hs, hp⟩)
      · refine ⟨_, .inl rfl, ?_⟩
        cases hf : c.f
        · rw [hf, if_neg (by decide), List.mem_singleton] at h
          simp [isPlace, Chk.spot, hf, h]
        · rw [hf, if_pos rfl] at h
          cases h
      · exact ⟨s, .inr hs, hp⟩
theorem refs_all (P : Int → Bool) : ∀ (cs : List Chk) (pre : List Int), (∀ c ∈ cs, c.ok) → ((spotsFrom pre.length cs).all (fun s => (refsOf (pre ++ chunksW cs) s).all P) = true ↔ ∀ c ∈ cs, ∀ v ∈ c.pay.take c.r.toNat, P v = true) := by
  intro cs
  induction cs with
  | nil => intro pre _; simp [spotsFrom]
  | cons c cs ih =>
    intro pre hok
    have hc := hok c List.mem_cons_self
    have hE := headE_ok.1 hc.1
    have hp := hc.2
    have h1 : refsOf (pre ++ chunksW (c :: cs)) (c.spot pre.length) = c.pay.take c.r.toNat := by
      simp only [refsOf, Chk.spot, Int.toNat_natCast]
      rw [chunksW_cons, chkW, List.drop_append, List.drop_of_length_le (by omega), List.nil_append, show pre.length + 1 - pre.length = 1 by omega, List.cons_append, List.drop_succ_cons, List.drop_zero, List.take_append_of_le_length (by omega)]
    have h2 := ih (pre ++ chkW c) (fun d hd => hok d (List.mem_cons_of_mem _ hd))
    rw [List.length_append, chkW_length, List.append_assoc, ← chunksW_cons] at h2
    simp only [spotsFrom, List.all_cons, Bool.and_eq_true, List.forall_mem_cons]
    rw [h1, h2, List.all_eq_true]
def refsC (cs : List Chk) : Prop := ∀ c ∈ cs, ∀ v ∈ c.pay.take c.r.toNat, v = 0 ∨ v ∈ starts 0 cs
theorem chunks_refs {cs : List Chk} (hok : ∀ c ∈ cs, c.ok) : refsOk (spotsFrom 0 cs) (chunksW cs) = true ↔ refsC cs := by
  have := refs_all (fun v => (placeF (spotsFrom 0 cs) v).isSome) cs [] hok
  simp only [List.length_nil, List.nil_append] at this
  unfold refsOk refsC
  rw [this]
  constructor
  · intro h c hc v hv
    have := placeC_some.1 (h c hc v hv)
    rwa [starts_mem] at this
  · intro h c hc v hv
    have := h c hc v hv
    rw [← starts_mem] at this
    exact placeC_some.2 this
theorem checkE_chunks {cs : List Chk} (hok : ∀ c ∈ cs, c.ok) (hl : (chunksW cs).length ≤ 256) : checkE (chunksW cs) = 0 ↔ refsC cs := by
  obtain ⟨h1, h2⟩ := chunks_spots hok hl
  rw [checkE_ok, h2, chunks_refs hok]
  exact ⟨fun h => h.2, fun h => ⟨h1, h⟩⟩
theorem check_chunks {a : List Int} (h : checkE a = 0) : ∃ cs : List Chk, (∀ c ∈ cs, c.ok) ∧ a = chunksW cs ∧ spotsL a = spotsFrom 0 cs ∧ a.length ≤ 256 ∧ refsC cs := by
  obtain ⟨cs, h1, h2, h3, h4⟩ := arena_chunks (checkE_ok.1 h).1
  subst h2
  exact ⟨cs, h1, rfl, h3, h4, (checkE_chunks h1 h4).1 h⟩
end Go.Proofs.Ytgkoaambdejkdaa

namespace Go.Proofs.Ytgkoaambdejkdaa
open Go.RowKit
def refT (φ : Int → Int) (v : Int) : Int := if v = 0 then 0 else φ (v - 1) + 1
structure Iso (a b L : List Int) (φ : Int → Int) : Prop where
  nn : ∀ x ∈ L, 0 ≤ φ x
  inj : ∀ x ∈ L, ∀ y ∈ L, φ x = φ y → x = y
  at_ : ∀ x ∈ L, ∀ s, spotAt (spotsL a) x = some s → ∃ s', spotAt (spotsL b) (φ x) = some s' ∧ s'.r = s.r ∧ s'.b = s.b ∧ s'.t = s.t ∧ bodyOf b s' = bodyOf a s ∧ refsOf b s' = (refsOf a s).map (refT φ)
structure ClosedL (a L : List Int) : Prop where
  begs : ∀ x ∈ L, x ∈ begsL (spotsL a)
  closed : ∀ x ∈ L, ∀ y ∈ linksAt a (spotsL a) x, y ∈ L
  nn : ∀ x ∈ L, 0 ≤ x
theorem linksT {φ : Int → Int} : ∀ (l : List Int), (∀ v ∈ l, v ≠ 0 → 0 ≤ φ (v - 1)) → (((l.map (refT φ)).filter fun v => v != 0).map fun v => v - 1) = ((l.filter fun v => v != 0).map fun v => v - 1).map φ := by
  intro l
  induction l with
  | nil => intro _; rfl
  | cons v l ih =>
    intro h
    have ih' := ih (fun u hu => h u (List.mem_cons_of_mem _ hu))
    rw [List.map_cons]
    by_cases h0 : v = 0
    · have e : refT φ v = 0 := by unfold refT; rw [if_pos h0]
      rw [e, List.filter_cons_of_neg (by simp), List.filter_cons_of_neg (by simp [h0])]
      exact ih'
    · have e : refT φ v = φ (v - 1) + 1 := by unfold refT; rw [if_neg h0]
      have hp := h v List.mem_cons_self h0
      rw [e, List.filter_cons_of_pos (by simp; omega), List.filter_cons_of_pos (by simp [h0]), List.map_cons, List.map_cons, List.map_cons, ih']
      congr 1
      omega
section
variable {a b L : List Int} {φ : Int → Int}
theorem Iso.link_of (hC : ClosedL a L) {x : Int} (hx : x ∈ L) {s : Spot} (hs : spotAt (spotsL a) x = some s) : ∀ v ∈ refsOf a s, v ≠ 0 → v - 1 ∈ L := fun v hv h0 => by
  refine hC.closed x hx (v - 1) ?_
  unfold linksAt
  rw [hs]
  exact List.mem_map.2 ⟨v, List.mem_filter.2 ⟨hv, by simpa using h0⟩, rfl⟩
theorem Iso.links (h : Iso a b L φ) (hC : ClosedL a L) {x : Int} (hx : x ∈ L) : linksAt b (spotsL b) (φ x) = (linksAt a (spotsL a) x).map φ := by
  obtain ⟨s, hs⟩ := begsL_iff.1 (hC.begs x hx)
  obtain ⟨s', hs', -, -, -, -, hr⟩ := h.at_ x hx s hs
  unfold linksAt
  rw [hs, hs']
  show linksL b s' = (linksL a s).map φ
  unfold linksL
  rw [hr]
  exact linksT _ (fun v hv h0 => h.nn _ (Iso.link_of hC hx hs v hv h0))
theorem Iso.addL (h : Iso a b L φ) {out : List Int} (ho : ∀ y ∈ out, y ∈ L) {x : Int} (hx : x ∈ L) : addL (out.map φ) (φ x) = (addL out x).map φ := by
  unfold Proofs.Ytgkoaambdejkdaa.addL
  by_cases hm : x ∈ out
  · rw [if_pos hm, if_pos (List.mem_map.2 ⟨x, hm, rfl⟩)]
  · rw [if_neg hm, if_neg (fun hh => by
      obtain ⟨y, hy, e⟩ := List.mem_map.1 hh
      exact hm (h.inj y (ho y hy) x hx e ▸ hy)), List.map_append]
    rfl
theorem Iso.addL_in {out : List Int} (ho : ∀ y ∈ out, y ∈ L) {x : Int} (hx : x ∈ L) : ∀ y ∈ Proofs.Ytgkoaambdejkdaa.addL out x, y ∈ L := fun y hy => by
  rcases addL_mem hy with h1 | rfl
  · exact ho y h1
  · exact hx
theorem Iso.fold (h : Iso a b L φ) : ∀ (l out : List Int), (∀ y ∈ out, y ∈ L) → (∀ y ∈ l, y ∈ L) → (l.map φ).foldl Proofs.Ytgkoaambdejkdaa.addL (out.map φ) = (l.foldl Proofs.Ytgkoaambdejkdaa.addL out).map φ ∧ ∀ y ∈ l.foldl Proofs.Ytgkoaambdejkdaa.addL out, y ∈ L
  | [], out, ho, _ => ⟨rfl, ho⟩
  | x :: l, out, ho, hl => by
    have hx := hl x List.mem_cons_self
    have ih := Iso.fold h l (Proofs.Ytgkoaambdejkdaa.addL out x) (Iso.addL_in ho hx) (fun y hy => hl y (List.mem_cons_of_mem _ hy))
    rw [List.map_cons, List.foldl_cons, List.foldl_cons, h.addL ho hx]
    exact ih
theorem Iso.bfs (h : Iso a b L φ) (hC : ClosedL a L) {f : List Int} (hf : ∀ y ∈ f, y ∈ L) : ∀ n, bfsL b (spotsL b) (f.map φ) n = (bfsL a (spotsL a) f n).map φ ∧ ∀ y ∈ bfsL a (spotsL a) f n, y ∈ L
  | 0 => by
    have := h.fold f [] (fun y hy => by cases hy) hf
    exact this
  | n + 1 => by
    obtain ⟨i1, i2⟩ := Iso.bfs h hC hf n
    show (match (bfsL b (spotsL b) (f.map φ) n)[n]? with | some x => (linksAt b (spotsL b) x).foldl Proofs.Ytgkoaambdejkdaa.addL (bfsL b (spotsL b) (f.map φ) n) | none => bfsL b (spotsL b) (f.map φ) n) = _ ∧ ∀ y ∈ (match (bfsL a (spotsL a) f n)[n]? with | some x => (linksAt a (spotsL a) x).foldl Proofs.Ytgkoaambdejkdaa.addL (bfsL a (spotsL a) f n) | none => bfsL a (spotsL a) f n), y ∈ L
    rw [i1, List.getElem?_map]
    have e : bfsL a (spotsL a) f (n + 1) = (match (bfsL a (spotsL a) f n)[n]? with | some x => (linksAt a (spotsL a) x).foldl Proofs.Ytgkoaambdejkdaa.addL (bfsL a (spotsL a) f n) | none => bfsL a (spotsL a) f n) := rfl
    rw [e]
    cases hx : (bfsL a (spotsL a) f n)[n]? with
    | none => exact ⟨rfl, i2⟩
    | some x =>
      have hxL := i2 x (List.mem_of_getElem? hx)
      simp only [Option.map_some]
      rw [h.links hC hxL]
      exact h.fold _ _ i2 (hC.closed x hxL)
theorem idxL_map (h : Iso a b L φ) {M : List Int} (hM : ∀ y ∈ M, y ∈ L) {y : Int} (hy : y ∈ L) : idxL (M.map φ) (φ y) = idxL M y := by
  unfold idxL ixOf
  rw [List.findIdx?_map]
  have e : M.findIdx? ((fun x => φ y == x) ∘ φ) = M.findIdx? (fun x => y == x) := by
    revert hM
    induction M with
    | nil => intro _; rfl
    | cons m M ih =>
      intro hM
      have hm := hM m List.mem_cons_self
      rw [List.findIdx?_cons, List.findIdx?_cons, ih (fun z hz => hM z (List.mem_cons_of_mem _ hz))]
      have e : ((fun x => φ y == x) ∘ φ) m = (y == m) := by
        show (φ y == φ m) = (y == m)
        rw [Bool.eq_iff_iff, beq_iff_eq, beq_iff_eq]
        exact ⟨fun e => h.inj y hy m hm e, fun e => by rw [e]⟩
      rw [e]
  rw [e]
theorem idxL_neg {M : List Int} (hM : ∀ y ∈ M, 0 ≤ y) : idxL M (-1) = -1 := ixOf_none (fun x hx => by have := hM x hx; simp; omega)
theorem form_iso (h : Iso a b L φ) (hC : ClosedL a L) {f : List Int} (hf : ∀ y ∈ f, y ∈ L) {os os' : List Ob} {fr fr' : List Int} (hF : FormIs a f os fr) (hF' : FormIs b (f.map φ) os' fr') : os = os' ∧ fr = fr' := by
  obtain ⟨M, h1, rfl, rfl⟩ := hF
  obtain ⟨M', h1', rfl, rfl⟩ := hF'
  have hb := h.bfs hC hf M.length
  have hM : ∀ y ∈ M, y ∈ L := fun y hy => hb.2 y (h1.fn ▸ hy)
  have e : M' = M.map φ := by
    refine bfsL_unique h1'.fn ?_
    rw [List.length_map, hb.1, ← h1.fn]
  subst e
  constructor
  · rw [List.map_map]
    refine List.map_congr_left (fun x hx => ?_)
    have hxL := hM x hx
    obtain ⟨s, hs⟩ := begsL_iff.1 (hC.begs x hxL)
    obtain ⟨s', hs', e1, e2, e3, e4, e5⟩ := h.at_ x hxL s hs
    show formO a (spotsL a) M x = formO b (spotsL b) (M.map φ) (φ x)
    unfold formO
    rw [hs, hs']
    dsimp only
    rw [e3, e4, e5, (spotAt_some hs).2.1, (spotAt_some hs').2.1, List.map_map]
    congr 1
    refine List.map_congr_left (fun v hv => ?_)
    show idxL M (v - 1) = idxL (M.map φ) (refT φ v - 1)
    by_cases h0 : v = 0
    · subst h0
      have e6 : refT φ 0 = 0 := rfl
      rw [e6]
      show idxL M (-1) = idxL (M.map φ) (-1)
      rw [idxL_neg (fun y hy => hC.nn y (hM y hy)), idxL_neg (fun y hy => by
        obtain ⟨z, hz, rfl⟩ := List.mem_map.1 hy
        exact h.nn z (hM z hz))]
    · have e6 : refT φ v - 1 = φ (v - 1) := by unfold refT; rw [if_neg h0]; omega
      rw [e6, idxL_map h hM (Iso.link_of hC hxL hs v hv h0)]
  · rw [List.map_map]
    refine List.map_congr_left (fun x hx => ?_)
    exact (idxL_map h hM (hf x hx)).symm
end
theorem spotsFrom_app : ∀ (cs ds : List Chk) (i : Nat), spotsFrom i (cs ++ ds) = spotsFrom i cs ++ spotsFrom (i + (chunksW cs).length) ds
  | [], ds, i => by simp [spotsFrom, chunksW]
  | c :: cs, ds, i => by
    rw [List.cons_append, chunksW_cons, List.length_append, chkW_length]
    simp only [spotsFrom]
    rw [spotsFrom_app cs ds, List.cons_append, Nat.add_assoc]
theorem spotsFrom_low : ∀ (cs : List Chk) (i : Nat), ∀ s ∈ spotsFrom i cs, (i : Int) ≤ s.loc ∧ s.loc < i + (chunksW cs).length
  | [], i => by simp [spotsFrom]
  | c :: cs, i => by
    intro s hs
    rw [chunksW_cons, List.length_append, chkW_length]
    have hp : 1 ≤ c.len := by unfold Chk.len; omega
    simp only [spotsFrom, List.mem_cons] at hs
    rcases hs with rfl | hs
    · simp only [Chk.spot]; omega
    · have := spotsFrom_low cs (i + c.len) s hs
      omega
theorem split_at (pre suf : List Chk) (c : Chk) (hf : c.f = false) : spotAt (spotsFrom 0 (pre ++ c :: suf)) (chunksW pre).length = some (c.spot (chunksW pre).length) := by
  unfold spotAt
  rw [spotsFrom_app, List.find?_append]
  have h1 : (spotsFrom 0 pre).find? (isBeg (chunksW pre).length) = none := by
    rw [List.find?_eq_none]
    intro s hs
    have := spotsFrom_low pre 0 s hs
    simp only [isBeg, Bool.and_eq_true, beq_iff_eq, not_and]
    intro _
    omega
  rw [h1, Nat.zero_add]
  simp only [spotsFrom, Option.none_or]
  rw [List.find?_cons_of_pos]
  simp [isBeg, Chk.spot, hf]
theorem split_refs (pre suf : List Chk) (c : Chk) (hc : c.ok) : refsOf (chunksW (pre ++ c :: suf)) (c.spot (chunksW pre).length) = c.pay.take c.r.toNat ∧ bodyOf (chunksW (pre ++ c :: suf)) (c.spot (chunksW pre).length) = c.pay.drop c.r.toNat := by
  have hE := headE_ok.1 hc.1
  have hp := hc.2
  rw [chunksW_append, chunksW_cons, chkW]
  simp only [refsOf, bodyOf, Chk.spot, Int.toNat_natCast]
  constructor
  · rw [List.drop_append, List.drop_of_length_le (by omega), List.nil_append, show (chunksW pre).length + 1 - (chunksW pre).length = 1 by omega, List.cons_append, List.drop_succ_cons, List.drop_zero, List.take_append_of_le_length (by omega)]
  · rw [List.drop_append, List.drop_of_length_le (by omega), List.nil_append, show (chunksW pre).length + 1 + c.r.toNat - (chunksW pre).length = c.r.toNat + 1 by omega, List.cons_append, List.drop_succ_cons, List.drop_append_of_le_length (by omega), List.take_append_of_le_length (by rw [List.length_drop]; omega), List.take_of_length_le (by rw [List.length_drop]; omega)]
end Go.Proofs.Ytgkoaambdejkdaa

namespace Go.Proofs.Ytgkoaambdejkdaa
open Go.RowKit
theorem spotsF_len : ∀ (cs : List Chk) (i : Nat), (spotsFrom i cs).length = cs.length
  | [], _ => rfl
  | c :: cs, i => by simp only [spotsFrom, List.length_cons, spotsF_len cs]
theorem spotsFrom_ix : ∀ (cs : List Chk) (i0 i : Nat) (c : Chk), cs[i]? = some c → (spotsFrom i0 cs)[i]? = some (c.spot (i0 + (chunksW (cs.take i)).length))
  | [], _, _, _, h => by simp at h
  | d :: cs, i0, 0, c, h => by
    simp only [List.getElem?_cons_zero, Option.some.injEq] at h
    subst h
    simp [spotsFrom, chunksW]
  | d :: cs, i0, i + 1, c, h => by
    simp only [List.getElem?_cons_succ] at h
    have ih := spotsFrom_ix cs (i0 + d.len) i c h
    simp only [spotsFrom, List.getElem?_cons_succ, List.take_succ_cons]
    rw [ih, chunksW_cons, List.length_append, chkW_length]
    congr 2
    omega
theorem spotsFrom_set : ∀ (cs : List Chk) (i0 i : Nat) (c c' : Chk), cs[i]? = some c → c'.r = c.r → c'.b = c.b → c'.t = c.t → c'.f = c.f → c'.pay.length = c.pay.length → spotsFrom i0 (cs.set i c') = spotsFrom i0 cs
  | [], _, _, _, _, _, _, _, _, _, _ => by simp
  | d :: cs, i0, 0, c, c', h, h1, h2, h3, h4, h5 => by
    simp only [List.getElem?_cons_zero, Option.some.injEq] at h
    subst h
    simp only [List.set_cons_zero, spotsFrom, Chk.spot, Chk.len, h1, h2, h3, h4, h5]
  | d :: cs, i0, i + 1, c, c', h, h1, h2, h3, h4, h5 => by
    simp only [List.getElem?_cons_succ] at h
    simp only [List.set_cons_succ, spotsFrom, spotsFrom_set cs (i0 + d.len) i c c' h h1 h2 h3 h4 h5]
theorem chunksW_set : ∀ (cs : List Chk) (i j : Nat) (c : Chk) (v : Int), cs[i]? = some c → j < c.pay.length → chunksW (cs.set i ⟨c.r, c.b, c.t, c.f, c.pay.set j v⟩) = (chunksW cs).set ((chunksW (cs.take i)).length + 1 + j) v
  | [], _, _, _, _, h, _ => by simp at h
  | d :: cs, 0, j, c, v, h, hj => by
    simp only [List.getElem?_cons_zero, Option.some.injEq] at h
    subst h
    simp only [List.set_cons_zero, List.take_zero]
    rw [chunksW_cons, chunksW_cons, List.set_append, if_pos (by rw [chkW_length]; simp [chunksW, Chk.len]; omega)]
    congr 1
    simp only [chkW, chunksW, List.flatMap_nil, List.length_nil]
    rw [show 0 + 1 + j = j + 1 by omega, List.set_cons_succ]
  | d :: cs, i + 1, j, c, v, h, hj => by
    simp only [List.getElem?_cons_succ] at h
    have ih := chunksW_set cs i j c v h hj
    simp only [List.set_cons_succ, List.take_succ_cons]
    rw [chunksW_cons, chunksW_cons, chunksW_cons, ih, List.length_append, List.set_append, if_neg (by omega)]
    congr 2
    omega
theorem chunks_cut {cs : List Chk} {i : Nat} {c : Chk} (h : cs[i]? = some c) : cs = cs.take i ++ c :: cs.drop (i + 1) := by
  obtain ⟨q, rfl⟩ := List.getElem?_eq_some_iff.1 h
  rw [← List.drop_eq_getElem_cons q, List.take_append_drop]
theorem refs_ix {cs : List Chk} {i : Nat} {c : Chk} (hok : ∀ c ∈ cs, c.ok) (h : cs[i]? = some c) :
    refsOf (chunksW cs) (c.spot (chunksW (cs.take i)).length) = c.pay.take c.r.toNat ∧ bodyOf (chunksW cs) (c.spot (chunksW (cs.take i)).length) = c.pay.drop c.r.toNat := by
  have h1 := split_refs (cs.take i) (cs.drop (i + 1)) c (hok c (List.mem_of_getElem? h))
  rw [← chunks_cut h] at h1
  exact h1
theorem take_set_same (i : Nat) (cs : List Chk) (c : Chk) (k : Nat) (c0 : Chk) (h0 : cs[i]? = some c0) (hl : c.len = c0.len) : (chunksW ((cs.set i c).take k)).length = (chunksW (cs.take k)).length := by
  rw [List.take_set]
  by_cases hk : i < k
  · have h1 : (cs.take k)[i]? = some c0 := by rw [List.getElem?_take, if_pos hk, h0]
    generalize cs.take k = ds at *
    have h2 := chunks_cut h1
    have h3 : ds.set i c = ds.take i ++ c :: ds.drop (i + 1) := by
      obtain ⟨q, -⟩ := List.getElem?_eq_some_iff.1 h1
      rw [List.set_eq_take_append_cons_drop, if_pos q]
    rw [h3]
    conv => rhs; rw [h2]
    rw [chunksW_append, chunksW_append, chunksW_cons, chunksW_cons]
    simp only [List.length_append, chkW_length, hl]
  · rw [List.set_eq_of_length_le (by rw [List.length_take]; omega)]
structure PaySet (a a' : List Int) (s : Spot) (j : Nat) (v : Int) : Prop where
  len : a'.length = a.length
  spotsE : spotsE a' = 0
  spots : spotsL a' = spotsL a
  refs : refsOf a' s = if (j : Int) < s.r then (refsOf a s).set j v else refsOf a s
  body : bodyOf a' s = if (j : Int) < s.r then bodyOf a s else (bodyOf a s).set (j - s.r.toNat) v
  other : ∀ s' ∈ spotsL a, s' ≠ s → refsOf a' s' = refsOf a s' ∧ bodyOf a' s' = bodyOf a s'
theorem pay_set {a : List Int} (h : spotsE a = 0) {s : Spot} (hs : s ∈ spotsL a) {j : Nat} (hj : (j : Int) < s.r + s.b) (v : Int) : PaySet a (a.set (s.loc.toNat + 1 + j) v) s j v := by
  obtain ⟨cs, hok, rfl, hS, hlen⟩ := arena_chunks h
  obtain ⟨i, hi⟩ := List.mem_iff_getElem?.1 hs
  rw [hS] at hi
  have hil : i < cs.length := by have := (List.getElem?_eq_some_iff.1 hi).1; rw [spotsF_len] at this; exact this
  have hc : cs[i]? = some cs[i] := List.getElem?_eq_getElem hil
  generalize cs[i] = c at hc
  have hix := spotsFrom_ix cs 0 i c hc
  rw [Nat.zero_add] at hix
  obtain rfl : c.spot (chunksW (cs.take i)).length = s := Option.some.inj (hix.symm.trans hi)
  have hcok := hok c (List.mem_of_getElem? hc)
  have hE := headE_ok.1 hcok.1
  have hjp : j < c.pay.length := by have := hcok.2; simp only [Chk.spot] at hj; omega
  have hset := chunksW_set cs i j c v hc hjp
  have hloc : (c.spot (chunksW (cs.take i)).length).loc.toNat = (chunksW (cs.take i)).length := by simp [Chk.spot]
  rw [hloc, ← hset]
  have hok' : ∀ d ∈ cs.set i ⟨c.r, c.b, c.t, c.f, c.pay.set j v⟩, d.ok := by
    intro d hd
    rcases List.mem_or_eq_of_mem_set hd with hd | rfl
    · exact hok d hd
    · exact ⟨hcok.1, by rw [List.length_set]; exact hcok.2⟩
  have hl' : (chunksW (cs.set i ⟨c.r, c.b, c.t, c.f, c.pay.set j v⟩)).length = (chunksW cs).length := by rw [hset, List.length_set]
  obtain ⟨p1, p2⟩ := chunks_spots hok' (by rw [hl']; exact hlen)
  have hS' := spotsFrom_set cs 0 i c ⟨c.r, c.b, c.t, c.f, c.pay.set j v⟩ hc rfl rfl rfl rfl (List.length_set ..)
  have hc' : (cs.set i ⟨c.r, c.b, c.t, c.f, c.pay.set j v⟩)[i]? = some ⟨c.r, c.b, c.t, c.f, c.pay.set j v⟩ := List.getElem?_set_self hil
  have hpre : ∀ k, (chunksW ((cs.set i ⟨c.r, c.b, c.t, c.f, c.pay.set j v⟩).take k)).length = (chunksW (cs.take k)).length := fun k => take_set_same i cs _ k c hc (by simp [Chk.len])
  obtain ⟨r1, r2⟩ := refs_ix hok hc
  obtain ⟨r3, r4⟩ := refs_ix hok' hc'
  rw [hpre] at r3 r4
  have hsp : Chk.spot (chunksW (cs.take i)).length ⟨c.r, c.b, c.t, c.f, c.pay.set j v⟩ = c.spot (chunksW (cs.take i)).length := rfl
  rw [hsp] at r3 r4
  dsimp only at r3 r4
  refine ⟨hl', p1, by rw [p2, hS', hS], ?_, ?_, ?_⟩
  · rw [r3, r1]
    show List.take c.r.toNat (c.pay.set j v) = if (j : Int) < c.r then (List.take c.r.toNat c.pay).set j v else List.take c.r.toNat c.pay
    split
    · rw [List.take_set]
    · rw [List.take_set, List.set_eq_of_length_le (by rw [List.length_take]; omega)]
  · rw [r4, r2]
    show List.drop c.r.toNat (c.pay.set j v) = if (j : Int) < c.r then List.drop c.r.toNat c.pay else (List.drop c.r.toNat c.pay).set (j - c.r.toNat) v
    split
    · rw [List.drop_set, if_pos (by omega)]
    · rw [List.drop_set, if_neg (by omega)]
  · intro s' hs' hne
    obtain ⟨k, hk⟩ := List.mem_iff_getElem?.1 hs'
    rw [hS] at hk
    have hkl : k < cs.length := by have := (List.getElem?_eq_some_iff.1 hk).1; rw [spotsF_len] at this; exact this
    have hd : cs[k]? = some cs[k] := List.getElem?_eq_getElem hkl
    generalize cs[k] = d at hd
    have hix2 := spotsFrom_ix cs 0 k d hd
    rw [Nat.zero_add] at hix2
    obtain rfl : d.spot (chunksW (cs.take k)).length = s' := Option.some.inj (hix2.symm.trans hk)
    have hki : i ≠ k := by
      intro e
      subst e
      obtain rfl := Option.some.inj (hd.symm.trans hc)
      exact hne rfl
    have hd' : (cs.set i ⟨c.r, c.b, c.t, c.f, c.pay.set j v⟩)[k]? = some d := by rw [List.getElem?_set_ne hki]; exact hd
    obtain ⟨t1, t2⟩ := refs_ix hok hd
    obtain ⟨t3, t4⟩ := refs_ix hok' hd'
    rw [hpre] at t3 t4
    rw [t1, t2, t3, t4]
    exact ⟨rfl, rfl⟩
theorem PaySet.check {a a' : List Int} {s : Spot} {j : Nat} {v : Int} (h : PaySet a a' s j v) (h0 : checkE a = 0) (hs : s ∈ spotsL a) (hv : (j : Int) < s.r → (placeF (spotsL a) v).isSome = true) : checkE a' = 0 := by
  obtain ⟨-, h1⟩ := checkE_ok.1 h0
  refine checkE_ok.2 ⟨h.spotsE, ?_⟩
  rw [h.spots]
  unfold refsOk at h1 ⊢
  refine List.all_eq_true.2 fun s' hs' => List.all_eq_true.2 fun x hx => ?_
  have h2 := List.all_eq_true.1 h1 s' hs'
  by_cases e : s' = s
  · subst e
    rw [h.refs] at hx
    by_cases hj : (j : Int) < s'.r
    · rw [if_pos hj] at hx
      rcases List.mem_or_eq_of_mem_set hx with hx | rfl
      · exact List.all_eq_true.1 h2 x hx
      · exact hv hj
    · rw [if_neg hj] at hx
      exact List.all_eq_true.1 h2 x hx
  · rw [(h.other s' hs' e).1] at hx
    exact List.all_eq_true.1 h2 x hx
end Go.Proofs.Ytgkoaambdejkdaa

namespace Go.Proofs
open Go.RowKit Go.Sort Go.Shelf
shelf_lay_g SlLaysN.n43 Slgn 43 at Try 48 as Try.compactI
end Go.Proofs
namespace Go.Proofs.Ytgkoaambdejkdaa
open Go.RowKit Go.Sort
theorem compact_sublist (l : List Int) : List.Sublist (Lib.compact l) l := by
  have h1 : List.Sublist (((List.range l.length).filter (Lib.keeps l.toArray)).map (l.toArray[·]!)) ((List.range l.length).map (l.toArray[·]!)) := List.Sublist.map _ List.filter_sublist
  have h2 := Lib.range_map_get l.toArray
  simp only [List.size_toArray] at h2
  rw [h2] at h1
  exact h1
theorem compact_mem {l : List Int} {x : Int} : x ∈ Lib.compact l ↔ x ∈ l := by
  refine ⟨fun h => (compact_sublist l).subset h, fun h => ?_⟩
  obtain ⟨j, hj, rfl⟩ := List.getElem_of_mem h
  clear h
  induction j with
  | zero =>
    refine List.mem_map.2 ⟨0, List.mem_filter.2 ⟨by simpa using hj, by simp [Lib.keeps]⟩, by simp [hj]⟩
  | succ j ih =>
    by_cases hk : Lib.keeps l.toArray (j + 1) = true
    · exact List.mem_map.2 ⟨j + 1, List.mem_filter.2 ⟨by simpa using hj, hk⟩, by simp [hj]⟩
    · have h1 := ih (by omega)
      have h2 : l[j + 1] = l[j] := by
        simp only [Lib.keeps, decide_eq_true_eq, not_or, ne_eq, Decidable.not_not] at hk
        have := hk.2
        simpa [hj, show j < l.length by omega] using this
      rw [h2]
      exact h1
set_option maxHeartbeats 400000 in
theorem index_nil (F : Nat) (c : Nat) (w : World) : Calls Try.prog 58 #[.slice none 0 c, .func (.func F) #[] #[]] w fun e w' => e = .returned (.int .i64 (-1)) ∧ w' = w := by
  go_enter Try.func58, Try.ntmps58
  go_wp2
  go_loopw [8] (fun i wr => i = .int .i64 0 ∧ wr = w) (fun _ _ => 0)
  case atStart => exact ⟨rfl, rfl⟩
  case round =>
    obtain ⟨rfl, rfl⟩ := hrel
    go_wp2
    go_ret
    exact ⟨rfl, rfl⟩
theorem compact_int (base : Nat) (A : Option Addr) (n c : Nat) (xs : List Int) (w : World) (hown : w.ownsRow base 3 1 (.slice A n c) n (xs.map (.int .i64))) (hn : n ≤ 1000000) :
    Calls Try.prog 48 #[.slice A n c] w fun e w' => e = .returned (.slice A (Lib.compact xs).length c) ∧
      w'.ownsRow base 3 1 (.slice A (Lib.compact xs).length c) (Lib.compact xs).length ((Lib.compact xs).map (.int .i64)) ∧ w.grownBy w' (Value.slice A n c).ownBlock := by
  by_cases hnil : Value.slice A n c = .slice none 0 0
  · injection hnil with h1 h2 h3
    subst h1 h2 h3
    have hx : xs = [] := List.eq_nil_of_length_eq_zero (by have := hown.1; simpa using this)
    subst hx
    refine Calls.mono (AnyG.slices_Compact_int_empty Try.compactI none 0 w) ?_
    rintro e w' ⟨rfl, rfl⟩
    exact ⟨rfl, hown, ⟨rfl, rfl, rfl, Nat.le_refl _, fun _ _ _ => rfl⟩⟩
  · obtain ⟨g, cap, hv, hb, hg, h1, h2, h3, hH⟩ := Lib.holds_of_ownsRow hown hnil
    injection hv with e1 _ e3
    subst e1 e3
    have H := AnyG.slices_Compact_int Try.compactI g 0 c xs w hH (by omega) (by omega)
    rw [h3] at H
    have hfl := (compact_sublist xs).length_le
    generalize Lib.compact xs = ys at *
    refine Calls.mono H ?_
    rintro e w' ⟨rfl, q, rfl⟩
    have := Lib.ownsRow_putRow (q := q) (k := ys.length) hown (ys := ys ++ List.replicate (n - ys.length) 0) (by simp; omega) (by omega)
    rw [List.take_append_of_le_length (Nat.le_refl _), List.take_length] at this
    exact ⟨rfl, this, grownBy_sortedI (os := #[]) _⟩
end Go.Proofs.Ytgkoaambdejkdaa
