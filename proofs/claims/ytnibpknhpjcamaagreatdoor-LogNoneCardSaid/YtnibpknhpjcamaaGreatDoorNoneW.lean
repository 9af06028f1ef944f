/-
  LogNone: the walk.
-/
import Derived.Test.YtnibpknhpjcamaaGreatDoorAwake
set_option maxRecDepth 100000
namespace Go.Proofs.YtnibpknhpjcamaaGreatDoor
open Go.RowKit

set_option maxHeartbeats 400000 in
theorem fetch_nil (off most : Int) (w : World) : Calls Tryz.prog 14 #[.pointer none, .int .i64 off, .int .i64 most] w fun e w' => e = .returned (.tuple #[.slice none 0 0, .int .i64 1]) ∧ Below w.heap.size w w' := by
  go_enter Tryz.func14, Tryz.ntmps14
  go_wp2_with fail
  have e2 := ((Blk.new ((w.alloc (.cells #[.int .i64 off] 3)).alloc (.cells #[.int .i64 most] 3)) #[.slice none 0 0] 25).alloc (.cells #[.int .i64 1] 31)).cell (i := 0) (v := .slice none 0 0) rfl
  have e3 := (Blk.new (((w.alloc (.cells #[.int .i64 off] 3)).alloc (.cells #[.int .i64 most] 3)).alloc (.cells #[.slice none 0 0] 25)) #[.int .i64 1] 31).cell (i := 0) (v := .int .i64 1) rfl
  have hb : Below w.heap.size w ((((w.alloc (.cells #[.int .i64 off] 3)).alloc (.cells #[.int .i64 most] 3)).alloc (.cells #[.slice none 0 0] 25)).alloc (.cells #[.int .i64 1] 31)) := bel_alloc (bel_alloc (bel_alloc (bel_alloc (Below.refl _ _) _) _) _) _
  simp only [World.size_alloc] at e2 e3
  generalize ((((w.alloc (.cells #[.int .i64 off] 3)).alloc (.cells #[.int .i64 most] 3)).alloc (.cells #[.slice none 0 0] 25)).alloc (.cells #[.int .i64 1] 31)) = W at e2 e3 hb ⊢
  refine bodyPost_ret (v := .tuple #[.slice none 0 0, .int .i64 1]) ?_ rfl ⟨rfl, hb⟩
  simp [results, Tryz.results14, go_sem, e2, e3]

set_option maxHeartbeats 1000000 in
theorem none_any (s t : ByteArray) (n off most : Int) (w : World) : Calls Tryz.prog 8 #[.string s, .agg #[.int .i64 n, .string t], .int .i64 off, .int .i64 most] w (AwakePost w) := by
  go_enter Tryz.func8, Tryz.ntmps8
  go_wp2_with fail
  refine (open_nil s).mono ?_
  rintro e w1 ⟨rfl, rfl⟩
  go_wp2_with fail
  refine (append_nil _).mono ?_
  rintro e w2 ⟨rfl, rfl⟩
  have hb1 : Below w.heap.size w _ := bel_alloc (bel_alloc (Below.refl w.heap.size w) (.cells #[.int .i64 n, .string t] 58)) (.cells #[.int .i64 n, .string t] 58)
  generalize (w.alloc (.cells #[.int .i64 n, .string t] 58)).alloc (.cells #[.int .i64 n, .string t] 58) = w1 at hb1 ⊢
  have HB1 := hid hb1
  clear hb1
  go_wp2_with fail
  refine (fetch_nil off most _).mono ?_
  rintro e w2 ⟨rfl, hb2⟩
  have HB2 := hid (bel_next HB1.out hb2)
  clear HB1 hb2
  go_wp2_with fail
  refine sync_nil.mono ?_
  rintro e w3 ⟨rfl, rfl⟩
  go_wp2_with fail
  refine broken_nil.mono ?_
  rintro e w3 ⟨rfl, rfl⟩
  go_wp2_with fail
  refine first_nil.mono ?_
  rintro e w3 ⟨rfl, rfl⟩
  go_wp2_with fail
  refine next_nil.mono ?_
  rintro e w3 ⟨rfl, rfl⟩
  go_wp2_with fail
  refine sure_nil.mono ?_
  rintro e w3 ⟨rfl, rfl⟩
  go_wp2_with fail
  refine segments_nil.mono ?_
  rintro e w3 ⟨rfl, rfl⟩
  go_wp2_with fail
  refine marks_nil.mono ?_
  rintro e w3 ⟨rfl, rfl⟩
  go_wp2_with fail
  refine (awake_any _).mono ?_
  rintro e w4 ⟨rfl, hb3⟩
  have HB3 := hid (bel_next HB2.out hb3)
  clear HB2 hb3
  go_wp2_with fail
  go_ret
  exact ⟨rfl, HB3.out⟩
end Go.Proofs.YtnibpknhpjcamaaGreatDoor
