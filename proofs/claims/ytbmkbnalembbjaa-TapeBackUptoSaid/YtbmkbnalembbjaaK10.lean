/-
  Texts joined: StMem StoreColl TapeRdSt.
-/
import Derived.Test.YtbmkbnalembbjaaK1
import Derived.Test.YtbmkbnalembbjaaK2
import Derived.Test.YtbmkbnalembbjaaK9
namespace Go.Proofs.Ytbmkbnalembbjaa
open Go.RowKit
structure StR (w : World) (B : Nat) (A : Option Addr) (n : Nat) (RA : Option Addr) (rn : Nat) (PA : Option Addr) (pn : Nat) (HA : Option Addr) (hn : Nat) (S : St) : Prop where
  a : Reads w B 1 A n (S.a.map (.int .u64))
  r : Reads w B 1 RA rn (S.r.map (.int .i64))
  p : Reads w B 2 PA pn (runsC S.p)
  l : Reads w B 3 HA hn (slotsC S.l)
structure StK (n c rn pn hn : Nat) (S : St) : Prop where
  cap : n ≤ c
  max : c ≤ maxLen
  wf : ∀ x ∈ S.a, (Lit.int .u64 x).wf = true
  rn : rn ≤ 9223372036854775807
  pn : pn ≤ 9223372036854775807
  hn : hn ≤ 9223372036854775807
structure StO (w : World) (base : Nat) (A : Option Addr) (n c : Nat) (RA : Option Addr) (rn rc : Nat) (PA : Option Addr) (pn pc : Nat) (HA : Option Addr) (hn hc : Nat) (S : St) : Prop where
  a : w.ownsRow base 37 1 (.slice A n c) n (S.a.map (.int .u64))
  r : w.ownsRow base 3 1 (.slice RA rn rc) rn (S.r.map (.int .i64))
  p : w.ownsRow base 47 2 (.slice PA pn pc) pn (runsC S.p)
  l : w.ownsRow base 50 3 (.slice HA hn hc) hn (slotsC S.l)
section
variable {w w' : World} {B n c rn rc pn pc hn hc : Nat} {A RA PA HA : Option Addr} {S : St}
theorem StR.below (h : StR w B A n RA rn PA pn HA hn S) (hb : Below B w w') : StR w' B A n RA rn PA pn HA hn S := ⟨h.a.below hb, h.r.below hb, h.p.below hb, h.l.below hb⟩
theorem StR.more {B' : Nat} (h : StR w B A n RA rn PA pn HA hn S) (hB : B ≤ B') : StR w B' A n RA rn PA pn HA hn S := ⟨h.a.more hB, h.r.more hB, h.p.more hB, h.l.more hB⟩
theorem StR.drew (h : StR w B A n RA rn PA pn HA hn S) : StR w.drew B A n RA rn PA pn HA hn S := ⟨h.a.drew, h.r.drew, h.p.drew, h.l.drew⟩
theorem StR.lens (h : StR w B A n RA rn PA pn HA hn S) : S.a.length = n ∧ S.r.length = rn ∧ S.p.length = pn ∧ S.l.length = hn := by
  refine ⟨by have := h.a.1; simpa using this, by have := h.r.1; simpa using this, ?_, ?_⟩
  · have := h.p.1; rw [runsC_length] at this; omega
  · have := h.l.1; rw [slotsC_length] at this; omega
theorem StO.reads {base : Nat} (h : StO w base A n c RA rn rc PA pn pc HA hn hc S) : StR w w.heap.size A n RA rn PA pn HA hn S := ⟨Reads.of_own h.a, Reads.of_own h.r, Reads.of_own h.p, Reads.of_own h.l⟩
theorem StO.below {base : Nat} (h : StO w base A n c RA rn rc PA pn pc HA hn hc S) (hb : Below w.heap.size w w') : StO w' base A n c RA rn rc PA pn pc HA hn hc S := ⟨own_below h.a hb, own_below h.r hb, own_below h.p hb, own_below h.l hb⟩
theorem StO.mono {base base' : Nat} (h : StO w base' A n c RA rn rc PA pn pc HA hn hc S) (hb : base ≤ base') : StO w base A n c RA rn rc PA pn pc HA hn hc S := ⟨own_mono h.a hb, own_mono h.r hb, own_mono h.p hb, own_mono h.l hb⟩
theorem StO.drew {base : Nat} (h : StO w base A n c RA rn rc PA pn pc HA hn hc S) : StO w.drew base A n c RA rn rc PA pn pc HA hn hc S := ⟨h.a.drew, h.r.drew, h.p.drew, h.l.drew⟩
theorem own_max {base size k d : Nat} {e : TypeId} {xs : List Value} (h : w.ownsRow base e size (.slice A k d) k xs) : d ≤ maxLen := by
  rcases h.2 with ⟨h, _⟩ | ⟨g, cap, cur, h, _, _, _, h4, _⟩
  · injection h with _ _ h3
    subst h3
    exact Nat.zero_le _
  · injection h with _ _ h3
    subst h3
    exact h4
theorem StO.known {base : Nat} (h : StO w base A n c RA rn rc PA pn pc HA hn hc S) (hw : ∀ x ∈ S.a, (Lit.int .u64 x).wf = true) : StK n c rn pn hn S := by
  have h1 := own_cap h.r
  have h2 := own_cap h.p
  have h3 := own_cap h.l
  have h4 := own_max h.r
  have h5 := own_max h.p
  have h6 := own_max h.l
  unfold maxLen at h4 h5 h6
  exact ⟨own_cap h.a, own_max h.a, hw, by omega, by omega, by omega⟩
theorem own_block4 {base e size k g : Nat} {v : Value} {xs : List Value} {t : TypeId} {cs : Array Value} (h : w.ownsRow base e size v k xs) (hB : Blk w g t cs) (hne : e ≠ t) (x0 x1 x2 x3 : Value) :
    ((((w.setCell ⟨g, 0, none⟩ x0).setCell ⟨g, 1, none⟩ x1).setCell ⟨g, 2, none⟩ x2).setCell ⟨g, 3, none⟩ x3).ownsRow base e size v k xs := by
  have hn := own_blk h hB hne
  exact own_apart (own_apart (own_apart (own_apart h (p := ⟨g, 0, none⟩) hn _) (p := ⟨g, 1, none⟩) hn _) (p := ⟨g, 2, none⟩) hn _) (p := ⟨g, 3, none⟩) hn _
theorem StO.store {base g : Nat} {cs : Array Value} (h : StO w base A n c RA rn rc PA pn pc HA hn hc S) (hB : Blk w g 29 cs) (x0 x1 x2 x3 : Value) :
    StO ((((w.setCell ⟨g, 0, none⟩ x0).setCell ⟨g, 1, none⟩ x1).setCell ⟨g, 2, none⟩ x2).setCell ⟨g, 3, none⟩ x3) base A n c RA rn rc PA pn pc HA hn hc S :=
  ⟨own_block4 h.a hB (by decide) _ _ _ _, own_block4 h.r hB (by decide) _ _ _ _, own_block4 h.p hB (by decide) _ _ _ _, own_block4 h.l hB (by decide) _ _ _ _⟩
end
end Go.Proofs.Ytbmkbnalembbjaa

namespace Go.Proofs.Ytbmkbnalembbjaa
open Go.RowKit
def stE (S : St) : Int := storeE S.a S.r S.l S.p
theorem stE_ok {S : St} : stE S = 0 ↔ StOk S := storeE_ok
theorem Coll.wf {S S' : St} {fr : Int} {L Y now : List Int} (h : Coll S S' fr L Y now) (ha : ∀ x ∈ S.a, (Lit.int .u64 x).wf = true) : ∀ x ∈ S'.a, (Lit.int .u64 x).wf = true := ((cleaned_of h.is).wf h.is ha).1
theorem stcheck_any (A : Option Addr) (n c : Nat) (RA : Option Addr) (rn rc : Nat) (PA : Option Addr) (pn pc : Nat) (HA : Option Addr) (hn hc : Nat) (S : St) (w : World)
    (hR : StR w w.heap.size A n RA rn PA pn HA hn S) (hK : StK n c rn pn hn S) :
    Calls Try.prog 34 #[.agg #[.slice A n c, .slice RA rn rc, .slice PA pn pc, .slice HA hn hc]] w fun e w' => e = .returned (.int .i64 (stE S)) ∧ Below w.heap.size w w' :=
  storeCheck_any A n c RA rn rc PA pn pc HA hn hc S.a S.r S.p S.l w hR.a hK.cap hK.wf hR.r hR.p hR.l hK.rn hK.pn
end Go.Proofs.Ytbmkbnalembbjaa

namespace Go.Proofs.Ytbmkbnalembbjaa
open Go.RowKit
structure RdSt (w wr : World) (gs : Nat) (A : Option Addr) (n c : Nat) (RA : Option Addr) (rn rc : Nat) (PA : Option Addr) (pn pc : Nat) (HA : Option Addr) (hn hc : Nat) (S : St) (L : List Nat) (b : Bool) : Prop where
  rd : RdAt wr (w.heap.size + 1) L b
  res : Blk wr w.heap.size 29 #[.slice none 0 0, .slice none 0 0, .slice none 0 0, .slice none 0 0]
  box : Blk wr gs 29 #[.slice A n c, .slice RA rn rc, .slice PA pn pc, .slice HA hn hc]
  lo : w.heap.size + 2 ≤ gs
  own : StO wr w.heap.size A n c RA rn rc PA pn pc HA hn hc S
  hb : Below w.heap.size w wr
theorem RdAt.own_ne {w : World} {g base size k : Nat} {e : TypeId} {v : Value} {xs : List Value} {L : List Nat} {b : Bool} (h : RdAt w g L b) (ho : w.ownsRow base e size v k xs) (hne : e ≠ 80) : v.ownBlock ≠ some g := by
  obtain ⟨s, hB, -⟩ := h
  exact own_blk_ne ho hB hne
section
variable {w wr w4 : World} {gs : Nat} {A : Option Addr} {n c : Nat} {RA : Option Addr} {rn rc : Nat} {PA : Option Addr} {pn pc : Nat} {HA : Option Addr} {hn hc : Nat} {S : St} {L : List Nat} {b : Bool}
theorem RdSt.alloc (h : RdSt w wr gs A n c RA rn rc PA pn pc HA hn hc S L b) (o : Obj) : RdSt w (wr.alloc o) gs A n c RA rn rc PA pn pc HA hn hc S L b :=
  ⟨h.rd.alloc o, h.res.alloc o, h.box.alloc o, h.lo, h.own.below (below_new wr o), h.hb.alloc h.hb.size o⟩
theorem RdSt.drew (h : RdSt w wr gs A n c RA rn rc PA pn pc HA hn hc S L b) : RdSt w wr.drew gs A n c RA rn rc PA pn pc HA hn hc S L b :=
  ⟨h.rd, h.res, h.box, h.lo, h.own.drew, h.hb.drew⟩
theorem RdSt.num {L' : List Nat} {b' : Bool} (h : RdSt w wr gs A n c RA rn rc PA pn pc HA hn hc S L b) (hg : wr.grownBy w4 (some (w.heap.size + 1))) (hr : RdAt w4 (w.heap.size + 1) L' b') : RdSt w w4 gs A n c RA rn rc PA pn pc HA hn hc S L' b' :=
  ⟨hr, h.res.grown hg (by intro e; injection e with e; omega), h.box.grown hg (by intro e; injection e with e; have := h.lo; omega), h.lo,
    ⟨own_grown h.own.a hg (fun g h1 h2 => h.rd.own_ne h.own.a (by decide) (by rw [h1, h2])), own_grown h.own.r hg (fun g h1 h2 => h.rd.own_ne h.own.r (by decide) (by rw [h1, h2])), own_grown h.own.p hg (fun g h1 h2 => h.rd.own_ne h.own.p (by decide) (by rw [h1, h2])), own_grown h.own.l hg (fun g h1 h2 => h.rd.own_ne h.own.l (by decide) (by rw [h1, h2]))⟩,
    h.hb.grown hg h.hb.size (fun g h1 => by injection h1 with h1; omega)⟩
theorem RdSt.bad {x : Bool} (h : RdSt w wr gs A n c RA rn rc PA pn pc HA hn hc S L b) : RdSt w (wr.setCell ⟨w.heap.size + 1, 1, none⟩ (.bool x)) gs A n c RA rn rc PA pn pc HA hn hc S L x := by
  obtain ⟨s, hB, h1, h2⟩ := h.rd
  exact h.num (grown_cell wr (w.heap.size + 1) 1 (.bool x)) ⟨s, hB.set_ 1 (.bool x), h1, h2⟩
theorem RdSt.put0 {ys : List Int} {X : Option Addr} {x xc : Nat} (h : RdSt w wr gs A n c RA rn rc PA pn pc HA hn hc S L b) (hg : wr.grownBy w4 (Value.slice A n c).ownBlock) (hown : w4.ownsRow w.heap.size 37 1 (.slice X x xc) x (ys.map (.int .u64))) :
    RdSt w (w4.setCell ⟨gs, 0, none⟩ (.slice X x xc)) gs X x xc RA rn rc PA pn pc HA hn hc { S with a := ys } L b :=
  ⟨(h.rd.keep hg (fun e => h.rd.own_ne h.own.a (by decide) e.symm)).far (by have := h.lo; dsimp only; omega) _, (h.res.grown hg (fun e => own_blk_ne h.own.a h.res (by decide) e.symm)).far (by have := h.lo; dsimp only; omega) _,
    (h.box.grown hg (fun e => own_blk_ne h.own.a h.box (by decide) e.symm)).set_ 0 (.slice X x xc), h.lo,
    ⟨own_apart hown (p := ⟨gs, 0, none⟩) (own_blk_ne hown (h.box.grown hg (fun e => own_blk_ne h.own.a h.box (by decide) e.symm)) (by decide)) _, own_apart (own_grown h.own.r hg (fun g h1 h2 => own_types h.own.r h.own.a (by decide) h1 h2)) (p := ⟨gs, 0, none⟩) (own_blk_ne (own_grown h.own.r hg (fun g h1 h2 => own_types h.own.r h.own.a (by decide) h1 h2)) (h.box.grown hg (fun e => own_blk_ne h.own.a h.box (by decide) e.symm)) (by decide)) _, own_apart (own_grown h.own.p hg (fun g h1 h2 => own_types h.own.p h.own.a (by decide) h1 h2)) (p := ⟨gs, 0, none⟩) (own_blk_ne (own_grown h.own.p hg (fun g h1 h2 => own_types h.own.p h.own.a (by decide) h1 h2)) (h.box.grown hg (fun e => own_blk_ne h.own.a h.box (by decide) e.symm)) (by decide)) _, own_apart (own_grown h.own.l hg (fun g h1 h2 => own_types h.own.l h.own.a (by decide) h1 h2)) (p := ⟨gs, 0, none⟩) (own_blk_ne (own_grown h.own.l hg (fun g h1 h2 => own_types h.own.l h.own.a (by decide) h1 h2)) (h.box.grown hg (fun e => own_blk_ne h.own.a h.box (by decide) e.symm)) (by decide)) _⟩,
    (h.hb.grown hg h.hb.size (fun g h1 => (h.own.a.lt g h1).1)).setCell (by have := h.lo; dsimp only; omega) _⟩
theorem RdSt.put1 {ys : List Int} {X : Option Addr} {x xc : Nat} (h : RdSt w wr gs A n c RA rn rc PA pn pc HA hn hc S L b) (hg : wr.grownBy w4 (Value.slice RA rn rc).ownBlock) (hown : w4.ownsRow w.heap.size 3 1 (.slice X x xc) x (ys.map (.int .i64))) :
    RdSt w (w4.setCell ⟨gs, 1, none⟩ (.slice X x xc)) gs A n c X x xc PA pn pc HA hn hc { S with r := ys } L b :=
  ⟨(h.rd.keep hg (fun e => h.rd.own_ne h.own.r (by decide) e.symm)).far (by have := h.lo; dsimp only; omega) _, (h.res.grown hg (fun e => own_blk_ne h.own.r h.res (by decide) e.symm)).far (by have := h.lo; dsimp only; omega) _,
    (h.box.grown hg (fun e => own_blk_ne h.own.r h.box (by decide) e.symm)).set_ 1 (.slice X x xc), h.lo,
    ⟨own_apart (own_grown h.own.a hg (fun g h1 h2 => own_types h.own.a h.own.r (by decide) h1 h2)) (p := ⟨gs, 1, none⟩) (own_blk_ne (own_grown h.own.a hg (fun g h1 h2 => own_types h.own.a h.own.r (by decide) h1 h2)) (h.box.grown hg (fun e => own_blk_ne h.own.r h.box (by decide) e.symm)) (by decide)) _, own_apart hown (p := ⟨gs, 1, none⟩) (own_blk_ne hown (h.box.grown hg (fun e => own_blk_ne h.own.r h.box (by decide) e.symm)) (by decide)) _, own_apart (own_grown h.own.p hg (fun g h1 h2 => own_types h.own.p h.own.r (by decide) h1 h2)) (p := ⟨gs, 1, none⟩) (own_blk_ne (own_grown h.own.p hg (fun g h1 h2 => own_types h.own.p h.own.r (by decide) h1 h2)) (h.box.grown hg (fun e => own_blk_ne h.own.r h.box (by decide) e.symm)) (by decide)) _, own_apart (own_grown h.own.l hg (fun g h1 h2 => own_types h.own.l h.own.r (by decide) h1 h2)) (p := ⟨gs, 1, none⟩) (own_blk_ne (own_grown h.own.l hg (fun g h1 h2 => own_types h.own.l h.own.r (by decide) h1 h2)) (h.box.grown hg (fun e => own_blk_ne h.own.r h.box (by decide) e.symm)) (by decide)) _⟩,
    (h.hb.grown hg h.hb.size (fun g h1 => (h.own.r.lt g h1).1)).setCell (by have := h.lo; dsimp only; omega) _⟩
theorem RdSt.put2 {ys : List Rn} {X : Option Addr} {x xc : Nat} (h : RdSt w wr gs A n c RA rn rc PA pn pc HA hn hc S L b) (hg : wr.grownBy w4 (Value.slice PA pn pc).ownBlock) (hown : w4.ownsRow w.heap.size 47 2 (.slice X x xc) x (runsC ys)) :
    RdSt w (w4.setCell ⟨gs, 2, none⟩ (.slice X x xc)) gs A n c RA rn rc X x xc HA hn hc { S with p := ys } L b :=
  ⟨(h.rd.keep hg (fun e => h.rd.own_ne h.own.p (by decide) e.symm)).far (by have := h.lo; dsimp only; omega) _, (h.res.grown hg (fun e => own_blk_ne h.own.p h.res (by decide) e.symm)).far (by have := h.lo; dsimp only; omega) _,
    (h.box.grown hg (fun e => own_blk_ne h.own.p h.box (by decide) e.symm)).set_ 2 (.slice X x xc), h.lo,
    ⟨own_apart (own_grown h.own.a hg (fun g h1 h2 => own_types h.own.a h.own.p (by decide) h1 h2)) (p := ⟨gs, 2, none⟩) (own_blk_ne (own_grown h.own.a hg (fun g h1 h2 => own_types h.own.a h.own.p (by decide) h1 h2)) (h.box.grown hg (fun e => own_blk_ne h.own.p h.box (by decide) e.symm)) (by decide)) _, own_apart (own_grown h.own.r hg (fun g h1 h2 => own_types h.own.r h.own.p (by decide) h1 h2)) (p := ⟨gs, 2, none⟩) (own_blk_ne (own_grown h.own.r hg (fun g h1 h2 => own_types h.own.r h.own.p (by decide) h1 h2)) (h.box.grown hg (fun e => own_blk_ne h.own.p h.box (by decide) e.symm)) (by decide)) _, own_apart hown (p := ⟨gs, 2, none⟩) (own_blk_ne hown (h.box.grown hg (fun e => own_blk_ne h.own.p h.box (by decide) e.symm)) (by decide)) _, own_apart (own_grown h.own.l hg (fun g h1 h2 => own_types h.own.l h.own.p (by decide) h1 h2)) (p := ⟨gs, 2, none⟩) (own_blk_ne (own_grown h.own.l hg (fun g h1 h2 => own_types h.own.l h.own.p (by decide) h1 h2)) (h.box.grown hg (fun e => own_blk_ne h.own.p h.box (by decide) e.symm)) (by decide)) _⟩,
    (h.hb.grown hg h.hb.size (fun g h1 => (h.own.p.lt g h1).1)).setCell (by have := h.lo; dsimp only; omega) _⟩
theorem RdSt.put3 {ys : List Slot} {X : Option Addr} {x xc : Nat} (h : RdSt w wr gs A n c RA rn rc PA pn pc HA hn hc S L b) (hg : wr.grownBy w4 (Value.slice HA hn hc).ownBlock) (hown : w4.ownsRow w.heap.size 50 3 (.slice X x xc) x (slotsC ys)) :
    RdSt w (w4.setCell ⟨gs, 3, none⟩ (.slice X x xc)) gs A n c RA rn rc PA pn pc X x xc { S with l := ys } L b :=
  ⟨(h.rd.keep hg (fun e => h.rd.own_ne h.own.l (by decide) e.symm)).far (by have := h.lo; dsimp only; omega) _, (h.res.grown hg (fun e => own_blk_ne h.own.l h.res (by decide) e.symm)).far (by have := h.lo; dsimp only; omega) _,
    (h.box.grown hg (fun e => own_blk_ne h.own.l h.box (by decide) e.symm)).set_ 3 (.slice X x xc), h.lo,
    ⟨own_apart (own_grown h.own.a hg (fun g h1 h2 => own_types h.own.a h.own.l (by decide) h1 h2)) (p := ⟨gs, 3, none⟩) (own_blk_ne (own_grown h.own.a hg (fun g h1 h2 => own_types h.own.a h.own.l (by decide) h1 h2)) (h.box.grown hg (fun e => own_blk_ne h.own.l h.box (by decide) e.symm)) (by decide)) _, own_apart (own_grown h.own.r hg (fun g h1 h2 => own_types h.own.r h.own.l (by decide) h1 h2)) (p := ⟨gs, 3, none⟩) (own_blk_ne (own_grown h.own.r hg (fun g h1 h2 => own_types h.own.r h.own.l (by decide) h1 h2)) (h.box.grown hg (fun e => own_blk_ne h.own.l h.box (by decide) e.symm)) (by decide)) _, own_apart (own_grown h.own.p hg (fun g h1 h2 => own_types h.own.p h.own.l (by decide) h1 h2)) (p := ⟨gs, 3, none⟩) (own_blk_ne (own_grown h.own.p hg (fun g h1 h2 => own_types h.own.p h.own.l (by decide) h1 h2)) (h.box.grown hg (fun e => own_blk_ne h.own.l h.box (by decide) e.symm)) (by decide)) _, own_apart hown (p := ⟨gs, 3, none⟩) (own_blk_ne hown (h.box.grown hg (fun e => own_blk_ne h.own.l h.box (by decide) e.symm)) (by decide)) _⟩,
    (h.hb.grown hg h.hb.size (fun g h1 => (h.own.l.lt g h1).1)).setCell (by have := h.lo; dsimp only; omega) _⟩
end
end Go.Proofs.Ytbmkbnalembbjaa
