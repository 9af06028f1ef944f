/-
  A world for the rows' witnesses: the two tables of the library lie in it.
-/
import Derived.Test.YtnibpknhpjcamaaGreatDoorPost
set_option maxRecDepth 100000
namespace Go.Proofs.YtnibpknhpjcamaaGreatDoor
open Go.ChangeShapes Go.WideShapes Go.ChangeAt Go.RowKit

def u8s (l : List Nat) : Array Value := (l.map fun (x : Nat) => Value.int .u8 x).toArray
def putCells (c : Array Value) : Obj → Obj
  | .cells _ t fz => .cells c t fz
  | o => o
noncomputable def laidWorld (os : Os) : World :=
  { World.holding Tryz.prog os ⟨#[], #[], []⟩ with
    heap := ((World.holding Tryz.prog os ⟨#[], #[], []⟩).heap.modify 1 (putCells (u8s Go.Pinned.utf8FirstZ))).modify 2 (putCells (u8s [128, 191, 160, 191, 128, 159, 144, 191, 128, 143, 0, 0, 0, 0, 0, 0, 0, 0, 0, 0, 0, 0, 0, 0, 0, 0, 0, 0, 0, 0, 0, 0])) }
end Go.Proofs.YtnibpknhpjcamaaGreatDoor
