/-
  TapeBack answers true for all lists of deeds, stores and texts of bulk at most 1048576, and changes no argument: deeds and stores are read as they were put down, and put down as they are read.
-/
import Derived.Deep.CutRange
import Derived.WalkKit
import Derived.ProofKit
import Derived.OpenShut
import Derived.JoinedCond
import Derived.Test.YtbmkbnalembbjaaK2
import Derived.Test.YtbmkbnalembbjaaK4
import Derived.Test.YtbmkbnalembbjaaK12
import Derived.Test.YtbmkbnalembbjaaK13
namespace Go.Proofs.Ytbmkbnalembbjaa
open Go.RowKit

theorem OpW.wf {o : OpV} (h : OpW o) : (Lit.int .u64 o.v).wf = true := by
  have := h.v
  simp [Lit.wf, IntKind.min, IntKind.max, IntKind.signed, IntKind.bits]
  omega
theorem bytesN_inj {s t : ByteArray} (h : bytesN s = bytesN t) : s = t := by
  obtain ⟨⟨a⟩⟩ := s
  obtain ⟨⟨b⟩⟩ := t
  have h2 : a.map UInt8.toNat = b.map UInt8.toNat := h
  have h3 : a = b := by
    have hi : ∀ x y : UInt8, x.toNat = y.toNat → x = y := fun x y h => UInt8.toNat_inj.1 h
    induction a generalizing b with
    | nil => cases b with
      | nil => rfl
      | cons y b => cases h2
    | cons x a ih => cases b with
      | nil => cases h2
      | cons y b =>
        simp only [List.map_cons, List.cons.injEq] at h2
        rw [hi x y h2.1, ih b (by simpa [bytesN] using h2.2) h2.2]
  rw [h3]

theorem size_ops {l : List OpV} {s : ByteArray} (hl : l.length ≤ 200) (h : bytesN s = encN (opsN l)) : s.size ≤ 16777216 := by
  have h1 := congrArg List.length h
  rw [bytesN_length] at h1
  have h2 := encN_ten (opsN l) (fun m hm => by obtain ⟨y, _, hy⟩ := List.mem_flatMap.1 hm; exact opN_lt y m hy)
  rw [opsN_length] at h2
  omega
theorem size_st {S : St} {s : ByteArray} (hOK : StOk S) (h : bytesN s = encN (stN S)) : s.size ≤ 16777216 := by
  have hlS := hOK.bounds
  have h1 := congrArg List.length h
  rw [bytesN_length] at h1
  have h2 := encN_ten (stN S) (fun m hm => by
    simp only [stN, bodyN, List.mem_cons, List.mem_append] at hm
    rcases hm with rfl | rfl | rfl | rfl | h | h | h | h
    · omega
    · omega
    · omega
    · omega
    · exact gA_lt' _ m h
    · exact gR_lt' _ m h
    · exact gP_lt' _ m h
    · exact gH_lt' _ m h)
  have e1 := flatN gA 1 (fun _ => rfl) S.a
  have e2 := flatN gR 1 (fun _ => rfl) S.r
  have e3 := flatN gP 2 (fun _ => rfl) S.p
  have e4 := flatN gH 3 (fun _ => rfl) S.l
  have e5 : (stN S).length = 4 + ((S.a.flatMap gA).length + ((S.r.flatMap gR).length + ((S.p.flatMap gP).length + (S.l.flatMap gH).length))) := by
    simp only [stN, bodyN, List.length_cons, List.length_append]
    omega
  omega
theorem StR.nil (w : World) (B : Nat) : StR w B none 0 none 0 none 0 none 0 ⟨[], [], [], []⟩ := ⟨⟨rfl, fun h => by omega⟩, ⟨rfl, fun h => by omega⟩, ⟨rfl, fun h => by omega⟩, ⟨rfl, fun h => by omega⟩⟩
theorem StK.nil : StK 0 0 0 0 0 ⟨[], [], [], []⟩ := ⟨Nat.le_refl _, by decide, by simp, by decide, by decide, by decide⟩

/-- tape.Store at any store: what it tells where it tells. -/
theorem tapeStore_one (A : Option Addr) (n c : Nat) (RA : Option Addr) (rn rc : Nat) (PA : Option Addr) (pn pc : Nat) (HA : Option Addr) (hn hc : Nat) (S : St) (w : World)
    (hR : StR w w.heap.size A n RA rn PA pn HA hn S) (hK : StK n c rn pn hn S) :
    Calls Try.prog 10 #[.agg #[.slice A n c, .slice RA rn rc, .slice PA pn pc, .slice HA hn hc]] w fun e w' => Below w.heap.size w w' ∧ ∃ (s : ByteArray) (x : Int), e = .returned (.tuple #[.string s, .int .i64 x]) ∧ (x = 0 → stE S = 0 ∧ bytesN s = encN (stN S)) ∧ (stE S = 0 → x = 0) := by
  by_cases hE : stE S = 0
  · refine (tapeStore_ok A n c RA rn rc PA pn pc HA hn hc S w hR hK hE).mono ?_
    rintro e w' ⟨hb, s, rfl, h⟩
    exact ⟨hb, s, 0, rfl, fun _ => ⟨hE, h⟩, fun _ => rfl⟩
  · refine (tapeStore_bad A n c RA rn rc PA pn pc HA hn hc S w hR hK hE).mono ?_
    rintro e w' ⟨hb, rfl⟩
    exact ⟨hb, _, _, rfl, fun h => absurd h hE, fun h => absurd h hE⟩

set_option maxRecDepth 100000 in
set_option maxHeartbeats 4000000 in
theorem tapeBack_walk (OA : Option Addr) (on oc : Nat) (l : List OpV) (A : Option Addr) (n c : Nat) (RA : Option Addr) (rn rc : Nat) (PA : Option Addr) (pn pc : Nat) (HA : Option Addr) (hn hc : Nat) (S : St) (T : ByteArray) (w : World) (hr : Reads w w.heap.size 5 OA on (opsC l)) (hW : ∀ o ∈ l, OpW o) (hR : StR w w.heap.size A n RA rn PA pn HA hn S) (hK : StK n c rn pn hn S) (hT : T.size ≤ 1048576) :
    Calls Try.prog 3 #[.slice OA on oc, .agg #[.slice A n c, .slice RA rn rc, .slice PA pn pc, .slice HA hn hc], .string T] w fun e w' => e = .returned (.bool true) ∧ Below w.heap.size w w' := by
  have hb1 := below_new w (.cells #[.slice A n c, .slice RA rn rc, .slice PA pn pc, .slice HA hn hc] 29)
  have DS := Blk.new w 29 #[.slice A n c, .slice RA rn rc, .slice PA pn pc, .slice HA hn hc]
  have HTt := Lib.hid tapes_true
  have HOps := Lib.hid (fun w hr => tapeOps_any OA on oc l w hr (fun o ho => (hW o ho).wf))
  have HSto := Lib.hid (fun w hR => tapeStore_one A n c RA rn rc PA pn pc HA hn hc S w hR hK)
  have HRO := Lib.hid (fun s w hs => readOps_any s w hs)
  have HRS := Lib.hid (fun s w hs => readStore_any s w hs)
  have hll : l.length = on := by have := hr.1; rw [opsC_length] at this; omega
  have HW := Lib.hid hW
  have HLl := Lib.hid hll
  have HK := Lib.hid hK
  have HTz := Lib.hid hT
  clear hW hll hK hT
  go_enter Try.func3, Try.ntmps3
  go_wp2_with fail
  refine (HTt.out _).mono ?_
  rintro e w1 ⟨rfl, hb2⟩
  have hb02 := below_step hb1 hb2
  have DS := DS.below hb2 DS.lt
  go_wp2_with fail
  refine (HOps.out _ ((hr.below hb02).more hb02.size)).mono ?_
  rintro e w2 ⟨hb3, hcs⟩
  have hb03 := below_step hb02 hb3
  have DS := DS.below hb3 DS.lt
  obtain ⟨t1, x1, rfl, hx1⟩ : ∃ (t : ByteArray) (x : Int), e = .returned (.tuple #[.string t, .int .i64 x]) ∧ (x = 0 → on ≤ 200 ∧ bytesN t = encN (opsN l)) := by
    rcases hcs with ⟨h, rfl⟩ | ⟨h, s, rfl, h2⟩
    · exact ⟨_, _, rfl, fun h => by cases h⟩
    · exact ⟨_, _, rfl, fun _ => ⟨h, h2⟩⟩
  have HX1 := Lib.hid hx1
  clear hcs hx1
  go_upto_if 31 with fail
  go_cut [] from 9 to 124 (fun wc => Below w2.heap.size w2 wc)
  case first =>
    by_cases h0 : x1 = 0
    · subst h0
      obtain ⟨hon, ht1⟩ := HX1.out rfl
      have HC := Lib.hid (HRO.out t1)
      have hz := size_ops (by rw [HLl.out]; exact hon) ht1
      have HT1 := Lib.hid ht1
      clear ht1
      go_wp2_with fail
      refine (HC.out _ hz).mono ?_
      rintro e w3 ⟨hb4, hcs⟩
      obtain ⟨M, mc, rfl, hM⟩ : ∃ (M : Option Addr) (mc : Nat), e = .returned (.tuple #[.slice M on mc, .int .i64 0]) ∧ w3.ownsRow w2.heap.size 39 5 (.slice M on mc) on (opsC l) := by
        rcases hcs with ⟨os, M, mc, hO, hle, rfl, hown⟩ | ⟨hno, -⟩
        · obtain rfl : l = os := opsN_inj _ _ HW.out hO.ok (HT1.out.symm.trans hO.is)
          rw [HLl.out] at hown
          rw [HLl.out]
          exact ⟨M, mc, rfl, hown⟩
        · exact absurd HT1.out (hno l HW.out (by rw [HLl.out]; omega))
      clear hcs
      have HEq := Lib.hid (equal_op OA M on oc mc _ _ l w3 (hr.below (below_step hb03 hb4)) (Reads.of_own hM) (by omega))
      go_wp2_with fail
      refine HEq.out.mono ?_
      rintro e w4 ⟨rfl, q, rfl⟩
      go_wp2_with fail
      go_meet
      exact below_drewN hb4 q
    · have g1 : (x1 == 0) = false := by simpa using h0
      go_wp2_with fail
      go_meet
      exact Below.refl _ _
  case rest =>
    have hb05 := below_step hb03 hcut
    have DS := DS.below hcut DS.lt
    obtain ⟨s0, s1, s2, s3⟩ := DS.four
    clear HOps HX1
    go_wp2_with fail
    refine (HSto.out _ ((hR.below hb05).more hb05.size)).mono ?_
    rintro e w6 ⟨hb6, t2, x2, rfl, hx2, -⟩
    have hb06 := below_step hb05 hb6
    have DS := DS.below hb6 DS.lt
    have HX2 := Lib.hid hx2
    clear hx2 s0 s1 s2 s3
    go_upto_if 51 with fail
    go_cut [] from 13 to 124 (fun wc => Below w6.heap.size w6 wc)
    case first =>
      by_cases h0 : x2 = 0
      · subst h0
        obtain ⟨hE, ht2⟩ := HX2.out rfl
        have hOK := stE_ok.1 hE
        have hlS := hOK.bounds
        have hrd : readS (bytesN t2) = (S, [], false) := by
          rw [ht2]
          exact readS_put (hOK.told HK.out.wf) (by omega) (by omega) (by omega) (by omega)
        have hz := size_st hOK ht2
        have HRd := Lib.hid hrd
        have HOK := Lib.hid hOK
        have HC := Lib.hid (HRS.out t2)
        clear hE ht2 hrd hOK
        go_wp2_with fail
        refine (HC.out _ hz).mono ?_
        rintro e w7 ⟨hb7, hcs⟩
        rw [HRd.out] at hcs
        obtain ⟨-, -, Y1, Yn1, Yc1, Y2, Yn2, Yc2, Y3, Yn3, Yc3, Y4, Yn4, Yc4, rfl, hY⟩ := hcs.resolve_right (fun h => h.1 ⟨rfl, HOK.out⟩)
        have hby := below_new w7 (.cells #[.slice Y1 Yn1 Yc1, .slice Y2 Yn2 Yc2, .slice Y3 Yn3 Yc3, .slice Y4 Yn4 Yc4] 29)
        have DY := Blk.new w7 29 #[.slice Y1 Yn1 Yc1, .slice Y2 Yn2 Yc2, .slice Y3 Yn3 Yc3, .slice Y4 Yn4 Yc4]
        have hb78 := below_step hb7 hby
        have hb08 := below_step hb06 hb78
        have DS := DS.below hb78 DS.lt
        obtain ⟨s0, s1, s2, s3⟩ := DS.four
        obtain ⟨y0, y1, y2, y3⟩ := DY.four
        have hRx := (hR.below hb08).more hb08.size
        have hYx : StR _ _ Y1 Yn1 Y2 Yn2 Y3 Yn3 Y4 Yn4 S := (hY.below hby).reads
        obtain ⟨a1, a2, a3, a4⟩ := hRx.lens
        obtain ⟨b1, b2, b3, b4⟩ := hYx.lens
        obtain rfl : n = Yn1 := by omega
        obtain rfl : rn = Yn2 := by omega
        obtain rfl : pn = Yn3 := by omega
        obtain rfl : hn = Yn4 := by omega
        have HSS := Lib.hid (sameSt_true A n c RA rn rc PA pn pc HA hn hc Y1 Yc1 Y2 Yc2 Y3 Yc3 Y4 Yc4 S _ hRx hYx (by omega) (by omega) (by omega) (by omega))
        clear hcs a1 a2 a3 a4 b1 b2 b3 b4 hRx hYx hY
        go_wp2_with fail
        refine HSS.out.mono ?_
        rintro e w9 ⟨rfl, hb9⟩
        go_wp2_with fail
        go_meet
        exact below_step hb78 hb9
      · have g1 : (x2 == 0) = false := by simpa using h0
        go_wp2_with fail
        go_meet
        exact Below.refl _ _
    case rest =>
      have hb09 := below_step hb06 hcut
      have DS := DS.below hcut DS.lt
      clear HSto HX2
      go_wp2_with fail
      refine (HRO.out T _ (by have := HTz.out; omega)).mono ?_
      rintro e w10 ⟨hb10, hco⟩
      have hb010 := below_step hb09 hb10
      obtain ⟨M, mn, mc, x3, os, rfl, hrM, hmn, hWo, h3⟩ : ∃ (M : Option Addr) (mn mc : Nat) (x3 : Int) (os : List OpV), e = .returned (.tuple #[.slice M mn mc, .int .i64 x3]) ∧ Reads w10 w10.heap.size 5 M mn (opsC os) ∧ mn ≤ 200 ∧ (∀ o ∈ os, OpW o) ∧ ((x3 = 0 ∧ bytesN T = encN (opsN os)) ∨ (x3 = 3 ∧ mn = 0)) := by
        rcases hco with ⟨os, M, mc, hO, hle, rfl, hown⟩ | ⟨-, rfl⟩
        · exact ⟨M, _, mc, 0, os, rfl, Reads.of_own hown, hle, hO.ok, .inl ⟨rfl, hO.is⟩⟩
        · exact ⟨none, 0, 0, 3, [], rfl, ⟨rfl, fun h => by omega⟩, by omega, by simp, .inr ⟨rfl, rfl⟩⟩
      have DS := DS.below hb10 DS.lt
      have H3 := Lib.hid h3
      clear hco h3 hb10
      go_wp2_with fail
      refine (HRS.out T _ (by have := HTz.out; omega)).mono ?_
      rintro e w11 ⟨hb11, hcs⟩
      obtain ⟨Y1, Yn1, Yc1, Y2, Yn2, Yc2, Y3, Yn3, Yc3, Y4, Yn4, Yc4, x4, S2, rfl, hRY, hKY, h4⟩ : ∃ (Y1 : Option Addr) (Yn1 Yc1 : Nat) (Y2 : Option Addr) (Yn2 Yc2 : Nat) (Y3 : Option Addr) (Yn3 Yc3 : Nat) (Y4 : Option Addr) (Yn4 Yc4 : Nat) (x4 : Int) (S2 : St),
          e = .returned (.tuple #[.agg #[.slice Y1 Yn1 Yc1, .slice Y2 Yn2 Yc2, .slice Y3 Yn3 Yc3, .slice Y4 Yn4 Yc4], .int .i64 x4]) ∧ StR w11 w11.heap.size Y1 Yn1 Y2 Yn2 Y3 Yn3 Y4 Yn4 S2 ∧ StK Yn1 Yc1 Yn2 Yn3 Yn4 S2 ∧
          ((x4 = 0 ∧ stE S2 = 0 ∧ bytesN T = encN (stN S2)) ∨ (x4 = 3 ∧ S2 = ⟨[], [], [], []⟩ ∧ Yn1 = 0 ∧ Yn2 = 0 ∧ Yn3 = 0 ∧ Yn4 = 0)) := by
        rcases hcs with ⟨hrd, hOK, Y1, Yn1, Yc1, Y2, Yn2, Yc2, Y3, Yn3, Yc3, Y4, Yn4, Yc4, rfl, hY⟩ | ⟨-, rfl⟩
        · exact ⟨Y1, Yn1, Yc1, Y2, Yn2, Yc2, Y3, Yn3, Yc3, Y4, Yn4, Yc4, 0, _, rfl, hY.reads, hY.known (fun x hx => by
            have := readS_wf (bytesN T) x hx
            simp [Lit.wf, IntKind.min, IntKind.max, IntKind.signed, IntKind.bits]
            omega), .inl ⟨rfl, stE_ok.2 hOK, readS_read (bytesN_lt T) hrd⟩⟩
        · exact ⟨none, 0, 0, none, 0, 0, none, 0, 0, none, 0, 0, 3, _, rfl, StR.nil _ _, StK.nil, .inr ⟨rfl, rfl, rfl, rfl, rfl, rfl⟩⟩
      have hby := below_new w11 (.cells #[.slice Y1 Yn1 Yc1, .slice Y2 Yn2 Yc2, .slice Y3 Yn3 Yc3, .slice Y4 Yn4 Yc4] 29)
      have DY := Blk.new w11 29 #[.slice Y1 Yn1 Yc1, .slice Y2 Yn2 Yc2, .slice Y3 Yn3 Yc3, .slice Y4 Yn4 Yc4]
      have hb1112 := below_step hb11 hby
      have hb012 := below_step hb010 hb1112
      have hRYx := (hRY.below hby).more hby.size
      have H4 := Lib.hid h4
      have HOp := Lib.hid (tapeOps_any M mn mc os _ ((hrM.below hb1112).more hb1112.size) (fun o ho => (hWo o ho).wf))
      clear hcs h4 hby hRY
      go_wp2_with fail
      refine HOp.out.mono ?_
      rintro e w13 ⟨hb13, hcs⟩
      obtain ⟨-, t5, rfl, ht5⟩ := hcs.resolve_left (fun h => by omega)
      have hb013 := below_step hb012 hb13
      have DY := DY.below hb13 DY.lt
      have hRYz := (hRYx.below hb13).more hb13.size
      have HT5 := Lib.hid ht5
      clear hcs ht5 hRYx hrM
      rcases H3.out with ⟨rfl, h3⟩ | ⟨rfl, rfl⟩
      · obtain rfl : t5 = T := bytesN_inj (HT5.out.trans h3.symm)
        clear h3
        have HSt := Lib.hid (fun w hR => tapeStore_one Y1 Yn1 Yc1 Y2 Yn2 Yc2 Y3 Yn3 Yc3 Y4 Yn4 Yc4 S2 w hR hKY)
        obtain ⟨y0, y1, y2, y3⟩ := DY.four
        go_wp2_with fail
        refine (HSt.out _ hRYz).mono ?_
        rintro e w15 ⟨hb15, t6, x6, rfl, h6, h7⟩
        have hb015 := below_step hb013 hb15
        have DY := DY.below hb15 DY.lt
        obtain ⟨y0, y1, y2, y3⟩ := DY.four
        have hRYv := (hRYz.below hb15).more hb15.size
        rcases H4.out with ⟨rfl, hE, hT2⟩ | ⟨rfl, rfl, rfl, rfl, rfl, rfl⟩
        · obtain rfl := h7 hE
          obtain rfl : t6 = t5 := bytesN_inj ((h6 rfl).2.trans hT2.symm)
          clear h6 h7 hE hT2
          go_wp2_with fail
          go_ret
          exact ⟨by first | rfl | simp, hb015⟩
        · have HSS := Lib.hid (sameSt_true Y1 0 Yc1 Y2 0 Yc2 Y3 0 Yc3 Y4 0 Yc4 none 0 none 0 none 0 none 0 ⟨[], [], [], []⟩ w15 hRYv (StR.nil w15 _) (by omega) (by omega) (by omega) (by omega))
          clear h6 h7
          go_wp2_with fail
          refine HSS.out.mono ?_
          rintro e w16 ⟨rfl, hb16⟩
          go_wp2_with fail
          go_ret
          exact ⟨by first | rfl | simp, below_step hb015 hb16⟩
      · skip
        have HSt := Lib.hid (fun w hR => tapeStore_one Y1 Yn1 Yc1 Y2 Yn2 Yc2 Y3 Yn3 Yc3 Y4 Yn4 Yc4 S2 w hR hKY)
        obtain ⟨y0, y1, y2, y3⟩ := DY.four
        go_wp2_with fail
        refine (HSt.out _ hRYz).mono ?_
        rintro e w15 ⟨hb15, t6, x6, rfl, h6, h7⟩
        have hb015 := below_step hb013 hb15
        have DY := DY.below hb15 DY.lt
        obtain ⟨y0, y1, y2, y3⟩ := DY.four
        have hRYv := (hRYz.below hb15).more hb15.size
        rcases H4.out with ⟨rfl, hE, hT2⟩ | ⟨rfl, rfl, rfl, rfl, rfl, rfl⟩
        · obtain rfl := h7 hE
          obtain rfl : t6 = T := bytesN_inj ((h6 rfl).2.trans hT2.symm)
          clear h6 h7 hE hT2
          go_wp2_with fail
          go_ret
          exact ⟨by first | rfl | simp, hb015⟩
        · have HSS := Lib.hid (sameSt_true Y1 0 Yc1 Y2 0 Yc2 Y3 0 Yc3 Y4 0 Yc4 none 0 none 0 none 0 none 0 ⟨[], [], [], []⟩ w15 hRYv (StR.nil w15 _) (by omega) (by omega) (by omega) (by omega))
          clear h6 h7
          go_wp2_with fail
          refine HSS.out.mono ?_
          rintro e w16 ⟨rfl, hb16⟩
          go_wp2_with fail
          go_ret
          exact ⟨by first | rfl | simp, below_step hb015 hb16⟩

theorem tapeBack_any (OA : Option Addr) (on oc : Nat) (l : List OpV) (A : Option Addr) (n c : Nat) (RA : Option Addr) (rn rc : Nat) (PA : Option Addr) (pn pc : Nat) (HA : Option Addr) (hn hc : Nat) (S : St) (T : ByteArray) (w : World) (hr : Reads w w.heap.size 5 OA on (opsC l)) (_ : on ≤ oc) (_ : oc ≤ maxLen) (hW : ∀ o ∈ l, OpW o) (_ : OA = none → oc = 0) (hR : StR w w.heap.size A n RA rn PA pn HA hn S) (hK : StK n c rn pn hn S) (_ : T.size ≤ maxLen) (hT : T.size ≤ 1048576) :
    Calls Try.prog 3 #[.slice OA on oc, .agg #[.slice A n c, .slice RA rn rc, .slice PA pn pc, .slice HA hn hc], .string T] w fun e w' => e = .returned (.bool true) ∧ Below w.heap.size w w' :=
  tapeBack_walk OA on oc l A n c RA rn rc PA pn pc HA hn hc S T w hr hW hR hK hT
theorem bulk_string {H : Type} {l : List (DataW H)} (hk : Rows.uptoSmall H l = true) {s : ByteArray} (hd : DataW.lit (.string s.data.toList) ∈ l) : s.size ≤ 1048576 := by
  have h3 : Rows.uptoBulkAll l ≤ 1048576 := of_decide_eq_true hk
  have h4 := bulk_part hd
  simp only [Rows.uptoBulk] at h4
  have e1 : s.size = s.data.size := rfl
  have e2 : s.data.toList.length = s.data.size := Array.length_toList
  omega

namespace TapeBackUpto
open Go.ChangeShapes Go.WideShapes Go.ChangeAt Go.RowKit
theorem own : ownKnob Try.prog.godebug = none := by kernel_rfl
theorem laidOut : laidOutB Try.prog = true := by kernel_rfl

set_option maxRecDepth 100000 in
set_option maxRecDepth 100000 in
theorem contract (H : Type) (enc : TypeId × Value → H) (W : World) (base : Nat) (args : Array Value) (ds gs : List (DataW H)) (before : List MemPlace)
    (hval0 : ∀ (j : Nat) t v, Try.f3.params[j]? = some t → args[j]? = some v → Value.okWide Try.prog W .any base t v)
    (hW : DataW.Whole enc Try.prog Try.f3.params.toList Rows.tapeBackSpec.vars false W args.toList ds gs before) (hk : Rows.uptoSmall H (ds ++ gs) = true) :
    Calls Try.prog 3 args W fun e W' => ∃ v, e = .returned v ∧ Rows.tapeBackSpec.post enc Try.prog Try.f3 false true false false W args v W' := by
  have hval : ∀ (j : Nat) t v, Try.f3.params[j]? = some t → args[j]? = some v → Value.okWide Try.prog W .any base t v := hval0
  have hW' := hW
  obtain ⟨p, q, hA0, hV, rfl, hfz, hnd⟩ := hW
  have hA : DataW.TrodAll enc Try.prog W 0 (fun _ => true) true Try.f3.params.toList args.toList ds p := hA0
  rw [Try.params3] at hA hval
  obtain ⟨v0, vs0, d0, ds0, p0, q0, hargs, rfl, rfl, h0, hA⟩ := trodAll_cons hA
  obtain ⟨v1, vs1, d1, ds1, p1, q1, rfl, rfl, rfl, h1, hA⟩ := trodAll_cons hA
  obtain ⟨v2, vs2, d2, ds2, p2, q2, rfl, rfl, rfl, h2, hA⟩ := trodAll_cons hA
  obtain ⟨rfl, rfl, rfl⟩ := trodAll_nil hA
  obtain rfl : args = #[v0, v1, v2] := by cases args; simp_all
  obtain ⟨A0, n0, c0, l0, rfl, hnc0, hc0, hr0, hv0, hz0⟩ := open_opsW (hval 0 _ v0 rfl rfl) (fun x hx => hW'.lt x (by simp [hx])) h0
  obtain ⟨A1, n1, c1, RA1, rn1, rc1, PA1, pn1, pc1, HA1, hn1, hc1, S1, rfl, hR1, hK1⟩ := open_store (hval 1 _ v1 rfl rfl) (fun x hx => hW'.lt x (by simp [hx])) h1
  obtain ⟨s2, rfl, rfl, rfl, ws2⟩ := Go.ChangeMaps.open_string Try.underlying9 (hval 2 _ v2 rfl rfl) h2
  have hm2 : s2.size ≤ 1048576 := bulk_string hk (by simp)
  refine (tapeBack_any A0 n0 c0 l0 A1 n1 c1 RA1 rn1 rc1 PA1 pn1 pc1 HA1 hn1 hc1 S1 s2 W hr0 hnc0 hc0 hv0 hz0 hR1 hK1 ws2 hm2).mono fun e W' ⟨he, hb⟩ => ?_
  subst he
  exact ⟨_, rfl, law_post laidOut Try.underlying4 rfl (by as_aux_lemma => kernel_rfl) rfl rfl hW' hb⟩

set_option maxRecDepth 100000 in
theorem lifted (os : Os) (started : os.Started) (H : Type) (enc : TypeId × Value → H) (F : Stop.Interp) :
    ReturnsInHanded {} Try.checked os 3 .any ((Rows.OpenSpec.upto Rows.tapeBackSpec).pre6 enc Try.prog Try.f3 Rows.tapeBackUptoRow.domain false) (((Rows.OpenSpec.upto Rows.tapeBackSpec).at F).post enc Try.prog Try.f3 false true false false) := by
  refine returnsInHanded_of_cond (C := Try.checked) (s := (Rows.OpenSpec.upto Rows.tapeBackSpec)) (k := Rows.uptoSmall) rfl own started (by as_aux_lemma => kernel_rfl) Try.func3
    (OpenSpec.witness (enc := enc) (C := Try.checked) (s := (Rows.OpenSpec.upto Rows.tapeBackSpec)) (k := Rows.uptoSmall) rfl false ⟨#[], #[.slice none 0 0, .agg #[.slice none 0 0, .slice none 0 0, .slice none 0 0, .slice none 0 0], .string ⟨#[]⟩], []⟩ 8 (by as_aux_lemma => kernel_rfl) (by as_aux_lemma => kernel_rfl) (by as_aux_lemma => kernel_rfl)
      (x := ([.nil, .agg [.nil, .nil, .nil, .nil], .lit (.string [])], [], [])) (by kernel_rfl) rfl (by kernel_rfl)) ?_
  intro W base args ds gs before hval hW _ hk _
  exact contract H enc W base args ds gs before hval hW hk

set_option maxHeartbeats 10000000 in
theorem closed : joinedFacts Try.prog 3 Try.f3 (Rows.OpenSpec.upto Rows.tapeBackSpec).bare Rows.tapeBackUptoRow = true := by
  unfold joinedFacts
  simp only [Bool.and_eq_true]
  repeat' apply And.intro
  all_goals as_aux_lemma => kernel_rfl

set_option maxHeartbeats 1000000 in
theorem proved : Rows.TapeBackUptoSaid :=
  OpenClaim.holds_of_cond 3 Try.f3 rfl rfl rfl rfl rfl rfl rfl ⟨rfl, rfl, rfl, rfl, rfl⟩ rfl rfl rfl rfl rfl (by as_aux_lemma => kernel_rfl) Try.func3 closed
    (of_decide_eq_true (by as_aux_lemma => kernel_rfl)) (by unfold Func.isWrapper; first | (rw [if_pos (by decide +kernel)]; kernel_rfl) | (rw [if_neg (by decide +kernel)]; exact ⟨rfl, rfl⟩))
    (fun os started H enc _ F => lifted os started H enc F)
end TapeBackUpto
end Go.Proofs.Ytbmkbnalembbjaa
