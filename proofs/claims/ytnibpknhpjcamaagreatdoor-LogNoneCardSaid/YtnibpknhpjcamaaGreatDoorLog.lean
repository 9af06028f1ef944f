/-
  Package seglog (chapter 5) as plain functions, and a log in the memory. No conditions.
-/
import Derived.Test.YtnibpknhpjcamaaGreatDoorDiskC
import Derived.Test.YtnibpknhpjcamaaGreatDoorFrameE
set_option maxRecDepth 100000
namespace Go.Proofs.YtnibpknhpjcamaaGreatDoor
open Go.RowKit

structure PMark where
  off : Int
  seg : Int
  pos : Int

structure PSeg where
  base : Int
  bytes : Int
  entries : Int
  marks : List PMark

/-- Is the next entry's place a mark? -/
def PSeg.marked (s : PSeg) : Bool := match s.marks.getLast? with | none => true | some m => decide (256 ≤ s.bytes - m.pos)

/-- An entry is noted. -/
def PSeg.took (s : PSeg) (base n : Int) : PSeg :=
  { s with marks := if s.marked then s.marks ++ [⟨base, s.base, s.bytes⟩] else s.marks, bytes := s.bytes + n, entries := s.entries + 1 }

def markCells (l : List PMark) : List Value := l.flatMap fun m => [.int .i64 m.off, .int .i64 m.seg, .int .i64 m.pos]
theorem markCells_len (l : List PMark) : (markCells l).length = l.length * 3 := by
  induction l with
  | nil => rfl
  | cons f l ih => unfold markCells at ih ⊢; rw [List.flatMap_cons, List.length_append, ih]; simp; omega
theorem markCells_app (a b : List PMark) : markCells (a ++ b) = markCells a ++ markCells b := by unfold markCells; rw [List.flatMap_append]

theorem Tryz.infoMark : (Tryz.prog.info? 54).map (fun i => (i.zero, i.size, i.bytes)) = some (some (.agg #[.int .i64 0, .int .i64 0, .int .i64 0]), 3, 24) := by kernel_rfl

end Go.Proofs.YtnibpknhpjcamaaGreatDoor
