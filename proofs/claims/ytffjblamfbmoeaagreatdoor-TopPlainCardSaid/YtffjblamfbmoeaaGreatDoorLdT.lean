/- A world for the witness: the settled one, with the listed variable as the row lists it. -/
import Derived.Test.YtffjblamfbmoeaaGreatDoorCards
import Derived.Test.YtffjblamfbmoeaaGreatDoorTie
import Derived.WalkKit
import Derived.ProofKit
import Derived.OpenShut
import Derived.Deep.DeepHandedRow
import Derived.Lib.LaidTab
import Derived.Shelf.Vars
namespace Go.Proofs.YtffjblamfbmoeaaGreatDoor
open Go.ChangeShapes Go.WideShapes Go.ChangeAt Go.RowKit

def opCell (l : List UInt8) (n : Int) : List Value := [.string ⟨l.toArray⟩, .int .i64 n]
def opCells : Array Value := (opCell [124, 124] 1 ++ opCell [38, 38] 2 ++ opCell [124] 3 ++ opCell [94] 4 ++ opCell [38] 5 ++ opCell [61, 61] 6 ++ opCell [33, 61] 6 ++ opCell [60] 7 ++ opCell [62] 7 ++ opCell [60, 61] 7 ++ opCell [62, 61] 7 ++ opCell [60, 60] 8 ++ opCell [62, 62] 8 ++ opCell [43] 9 ++ opCell [45] 9 ++ opCell [42] 10 ++ opCell [47] 10 ++ opCell [37] 10).toArray
def swapCells (c : Array Value) : Obj → Obj
  | .cells _ t frozen => .cells c t frozen
  | o => o
noncomputable def laidWorld (os : Os) : World :=
  { World.holding Tryz.prog os ⟨#[], #[], []⟩ with heap := (World.holding Tryz.prog os ⟨#[], #[], []⟩).heap.modify 1 (swapCells opCells) }
theorem own : ownKnob Tryz.prog.godebug = none := by kernel_rfl
theorem laidOut : laidOutB Tryz.prog = true := by kernel_rfl
/-- The library's variable is an int, in every world of the right shape. -/
theorem maxLen_int (w : World) (h : w.ShapedOpen Tryz.prog) : ∃ m : Int, w.cell? ⟨0, 0, none⟩ = some (.int .i64 m) :=
  Go.Proofs.cell_of_shapedOpen_int (zero := #[.int .i64 0]) (t := 3) h (of_decide_eq_true (by kernel_rfl)) (by kernel_rfl) rfl (by kernel_rfl) (by kernel_rfl) Tryz.underlying3
end Go.Proofs.YtffjblamfbmoeaaGreatDoor
