/-
  package walk: At, Objects.
-/
import Derived.Test.YtbmkbnalembbjaaDoorObject
import Derived.Test.YtbmkbnalembbjaaDoorIndexSpot
namespace Go.Proofs.YtbmkbnalembbjaaDoor
open Go.RowKit

/-- An object as it is told. -/
structure Ob where
  t : Int
  refs : List Int
  body : List Int
  f : Bool
deriving DecidableEq

def obOf (a : List Int) (l : List Spot) (s : Spot) : Ob := ⟨s.t, refIx l a s, bodyOf a s, s.f⟩
/-- The place of the spot that begins at a word. -/
def atIx (a : List Int) (x : Int) : Int := ixOf (fun s => s.loc == x) (spotsL a)

theorem refIx_length {a : List Int} {l : List Spot} {s : Spot} (h : SpotOk a s) : (refIx l a s).length = s.r.toNat := by unfold refIx; rw [List.length_map, refsOf_length h]

end Go.Proofs.YtbmkbnalembbjaaDoor
