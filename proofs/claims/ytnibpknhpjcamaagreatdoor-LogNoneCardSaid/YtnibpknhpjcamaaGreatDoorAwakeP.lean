/-
  The example of chapter 5: what it computes.
-/
import Derived.Test.YtnibpknhpjcamaaGreatDoorOpenF
set_option maxRecDepth 100000
namespace Go.Proofs.YtnibpknhpjcamaaGreatDoor
open Go.RowKit

def aL : PLog := ⟨[97], [], 0, 0, 0, 0⟩
def aD : PDisk := ⟨[], 9, -1, false⟩
def aI : List PItem := [⟨1, [120]⟩, ⟨3, [121]⟩]
def aL1 : PLog := (aL.append aD aI).1
def aD1 : PDisk := (aL.append aD aI).2.1

theorem aw_ret : (aL.append aD aI).2.2 = (0, 0) := by kernel_rfl
theorem aw_next : aL1.next = 4 := by kernel_rfl
theorem aw_names : aD1.files.map (fun f => f.name) = [[97, 46, 48, 48, 48, 48, 48, 48, 48, 48, 48, 48, 48, 48, 48]] := by kernel_rfl
theorem aw_fetch : aL1.fetch aD1 2 1 = ([⟨1, 3, [121]⟩], 0) := by kernel_rfl
end Go.Proofs.YtnibpknhpjcamaaGreatDoor
