/-
  disk: Free: the walk. No conditions.
-/
import Derived.Test.YtgjkjkeeblbjlaaGreatDoorGCM
set_option maxRecDepth 100000
namespace Go.Proofs.YtgjkjkeeblbjlaaGreatDoor
open Go.RowKit Go.Maps

set_option maxHeartbeats 400000 in
theorem free_any (d : Nat) (S : Nat → Prop) (D : PDisk) (w : World) (h : DiskAt w d S D) :
    Calls Tryz.prog 21 #[ptr d] w fun e w' => e = .returned (.int .i64 D.room) ∧ w = w' := by
  obtain ⟨m, fs, h, hS⟩ := h
  obtain ⟨c0, c1, c2, c3, f0, f1, f2, f3⟩ := h.cells
  unfold ptr
  go_enter Tryz.func21, Tryz.ntmps21
  go_wp2_with fail
  go_ret
  exact ⟨rfl, rfl⟩
end Go.Proofs.YtgjkjkeeblbjlaaGreatDoor
