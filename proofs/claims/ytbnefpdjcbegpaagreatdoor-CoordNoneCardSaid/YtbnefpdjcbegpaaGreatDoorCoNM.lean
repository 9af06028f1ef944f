/-
  CoordNone: the walk. No conditions.
-/
import Derived.Test.YtbnefpdjcbegpaaGreatDoorHQM
set_option maxRecDepth 100000
namespace Go.Proofs.YtbnefpdjcbegpaaGreatDoor
open Go.RowKit

set_option maxHeartbeats 1000000 in
theorem coOpen_nil (w : World) : Calls Tryz.prog 25 #[.pointer none] w fun e w' => e = .returned (.tuple #[.pointer none, .int .i64 1]) ∧ w = w' := by
  go_enter Tryz.func25, Tryz.ntmps25
  go_wp2_with fail
  refine (open_nil _).mono ?_
  rintro e w1 ⟨rfl, rfl⟩
  go_wp2_with fail
  go_ret2
  exact ⟨rfl, rfl⟩

set_option maxHeartbeats 1000000 in
theorem coReady_nil (p : Int) (w : World) : Calls Tryz.prog 33 #[.pointer none, .int .i64 p] w fun e w' => e = .returned (.int .i64 1) ∧ w = w' := by
  go_enter Tryz.func33, Tryz.ntmps33
  go_wp2_with fail
  go_ret
  exact ⟨rfl, rfl⟩

set_option maxHeartbeats 1000000 in
theorem coInit_nil (p : Int) (w : World) : Calls Tryz.prog 27 #[.pointer none, .int .i64 p] w fun e w' => e = .returned (.tuple #[.int .i64 0, .int .i64 1]) ∧ w = w' := by
  go_enter Tryz.func27, Tryz.ntmps27
  go_wp2_with fail
  refine (coReady_nil p _).mono ?_
  rintro e w1 ⟨rfl, rfl⟩
  go_wp2_with fail
  go_ret2
  exact ⟨rfl, rfl⟩

set_option maxHeartbeats 1000000 in
theorem coComplete_nil (p : Int) (w : World) : Calls Tryz.prog 28 #[.pointer none, .int .i64 p] w fun e w' => e = .returned (.tuple #[.int .i64 0, .int .i64 1]) ∧ w = w' := by
  go_enter Tryz.func28, Tryz.ntmps28
  go_wp2_with fail
  refine (coReady_nil p _).mono ?_
  rintro e w1 ⟨rfl, rfl⟩
  go_wp2_with fail
  go_ret2
  exact ⟨rfl, rfl⟩

set_option maxHeartbeats 1000000 in
theorem coEnd_nil (p b : Int) (y : Bool) (w : World) : Calls Tryz.prog 15 #[.pointer none, .int .i64 p, .int .i64 b, .bool y] w fun e w' => e = .returned (.tuple #[.bool false, .int .i64 1]) ∧ w = w' := by
  go_enter Tryz.func15, Tryz.ntmps15
  go_wp2_with fail
  refine (coReady_nil p _).mono ?_
  rintro e w1 ⟨rfl, rfl⟩
  go_wp2_with fail
  go_ret2
  exact ⟨rfl, rfl⟩

set_option maxHeartbeats 1000000 in
theorem coAdd_nil (a b p : Int) (w : World) : Calls Tryz.prog 12 #[.pointer none, .int .i64 a, .int .i64 b, .int .i64 p] w fun e w' => e = .returned (.int .i64 1) ∧ Below w.heap.size w w' := by
  obtain ⟨k, hk⟩ : ∃ k, (TNote.mk 2 a p).code = k := ⟨_, rfl⟩
  have hck : ∀ W, Calls Tryz.prog 32 #[.agg #[.int .i64 2, .int .i64 a, .int .i64 p]] W fun e w' => e = .returned (.int .i64 k) ∧ Below W.heap.size W w' := fun W => by
    have h9 := txCheck ⟨2, a, p⟩ W
    rw [hk] at h9
    exact h9
  have HCK := hid hck
  have hba : Below w.heap.size w (w.alloc (.cells #[.int .i64 2, .int .i64 a, .int .i64 p] 68)) := bel_alloc (Below.refl w.heap.size w) _
  have HBA := hid hba
  clear hck hba hk
  by_cases hk0 : k = 0
  · subst hk0
    go_enter Tryz.func12, Tryz.ntmps12
    go_wp2_with fail
    refine (HCK.out _).mono ?_
    rintro e w1 ⟨rfl, hb1⟩
    have HB := hid (bel_next HBA.out hb1)
    clear hb1
    go_wp2_with fail
    refine (coReady_nil a _).mono ?_
    rintro e w2 ⟨rfl, rfl⟩
    go_wp2_with fail
    go_ret
    exact ⟨rfl, HB.out⟩
  · have hz1 : (k != 0) = true := by simpa using hk0
    have hz2 : decide (k = 0) = false := decide_eq_false hk0
    go_enter Tryz.func12, Tryz.ntmps12
    go_wp2_with fail
    refine (HCK.out _).mono ?_
    rintro e w1 ⟨rfl, hb1⟩
    have HB := hid (bel_next HBA.out hb1)
    clear hb1
    go_wp2_with fail
    go_ret
    exact ⟨rfl, HB.out⟩

set_option maxHeartbeats 1000000 in
theorem coMay_nil (a b p : Int) (w : World) : Calls Tryz.prog 16 #[.pointer none, .int .i64 a, .int .i64 b, .int .i64 p] w fun e w' => e = .returned (.int .i64 1) ∧ w = w' := by
  go_enter Tryz.func16, Tryz.ntmps16
  go_wp2_with fail
  go_ret
  exact ⟨rfl, rfl⟩

set_option maxHeartbeats 1000000 in
theorem coTick_nil (w : World) : Calls Tryz.prog 14 #[.pointer none] w fun e w' => e = .returned (.slice none 0 0) ∧ w = w' := by
  go_enter Tryz.func14, Tryz.ntmps14
  go_wp2_with fail
  go_ret
  exact ⟨rfl, rfl⟩

set_option maxHeartbeats 1000000 in
theorem coRows_nil (w : World) : Calls Tryz.prog 11 #[.pointer none] w fun e w' => e = .returned (.slice none 0 0) ∧ w = w' := by
  go_enter Tryz.func11, Tryz.ntmps11
  go_wp2_with fail
  go_ret
  exact ⟨rfl, rfl⟩

set_option maxHeartbeats 1000000 in
theorem coTodo_nil (w : World) : Calls Tryz.prog 29 #[.pointer none] w fun e w' => e = .returned (.slice none 0 0) ∧ w = w' := by
  go_enter Tryz.func29, Tryz.ntmps29
  go_wp2_with fail
  go_ret
  exact ⟨rfl, rfl⟩

set_option maxHeartbeats 2000000 in
theorem coNone_any (a b p : Int) (y : Bool) (w : World) : Calls Tryz.prog 7 #[.int .i64 a, .int .i64 b, .int .i64 p, .bool y] w (AwakePost13 w) := by
  go_enter Tryz.func7, Tryz.ntmps7
  go_wp2_with fail
  refine (coOpen_nil _).mono ?_
  rintro e w1 ⟨rfl, rfl⟩
  go_wp2_with fail
  refine (coInit_nil 1 _).mono ?_
  rintro e w1 ⟨rfl, rfl⟩
  go_wp2_with fail
  refine (coComplete_nil 1 _).mono ?_
  rintro e w1 ⟨rfl, rfl⟩
  go_wp2_with fail
  refine (coEnd_nil 1 b y _).mono ?_
  rintro e w1 ⟨rfl, rfl⟩
  go_wp2_with fail
  refine (coAdd_nil a b p _).mono ?_
  rintro e w2 ⟨rfl, hb2⟩
  have HB2 := hid hb2
  clear hb2
  go_wp2_with fail
  refine (coMay_nil a b p _).mono ?_
  rintro e w3 ⟨rfl, rfl⟩
  go_wp2_with fail
  refine (coTick_nil _).mono ?_
  rintro e w3 ⟨rfl, rfl⟩
  go_wp2_with fail
  refine (coRows_nil _).mono ?_
  rintro e w3 ⟨rfl, rfl⟩
  go_wp2_with fail
  refine (coTodo_nil _).mono ?_
  rintro e w3 ⟨rfl, rfl⟩
  go_wp2_with fail
  refine (awake13_any _).mono ?_
  rintro e w6 ⟨rfl, hb6⟩
  have HB6 := hid (bel_next HB2.out hb6)
  clear HB2 hb6
  go_wp2_with fail
  go_ret
  exact ⟨rfl, HB6.out⟩
end Go.Proofs.YtbnefpdjcbegpaaGreatDoor
