/-
  PartNone: the walk. No conditions.
-/
import Derived.Test.YtgjkjkeeblbjlaaGreatDoorJJM
set_option maxRecDepth 100000
namespace Go.Proofs.YtgjkjkeeblbjlaaGreatDoor
open Go.RowKit

set_option maxHeartbeats 1000000 in
theorem paOpen_nil (w : World) : Calls Tryz.prog 22 #[.pointer none, .string ⟨#[112]⟩] w fun e w' => e = .returned (.tuple #[.pointer none, .int .i64 1]) ∧ w = w' := by
  go_enter Tryz.func22, Tryz.ntmps22
  go_wp2_with fail
  refine (open_nil _).mono ?_
  rintro e w' ⟨rfl, rfl⟩
  go_wp2_with fail
  exact ⟨rfl, .tuple #[.pointer none, .int .i64 1], by simp [results, Tryz.results22, go_sem], rfl, rfl⟩

set_option maxHeartbeats 1000000 in
theorem paPut_nil (k pd ep sq : Int) (ba : Option Addr) (bn bc : Nat) (w : World) : Calls Tryz.prog 18 #[.pointer none, .agg #[.int .i64 k, .int .i64 pd, .int .i64 ep, .int .i64 sq, .slice ba bn bc]] w fun e w' => e = .returned (.tuple #[.int .i64 0, .bool false, .int .i64 1]) ∧ Below w.heap.size w w' := by
  have HBA := hid (bel_alloc (Below.refl w.heap.size w) (.cells #[.int .i64 k, .int .i64 pd, .int .i64 ep, .int .i64 sq, .slice ba bn bc] 31))
  go_enter Tryz.func18, Tryz.ntmps18
  go_wp2_with fail
  refine (paNone_nil _).mono ?_
  rintro e w' ⟨rfl, rfl⟩
  go_wp2_with fail
  exact ⟨rfl, .tuple #[.int .i64 0, .bool false, .int .i64 1], by simp [results, Tryz.results18, go_sem], rfl, HBA.out⟩

set_option maxHeartbeats 1000000 in
theorem paFetch_nil (n m : Int) (y : Bool) (w : World) : Calls Tryz.prog 23 #[.pointer none, .int .i64 n, .int .i64 m, .bool y] w fun e w' => e = .returned (.tuple #[.slice none 0 0, .int .i64 0, .int .i64 1]) ∧ w = w' := by
  go_enter Tryz.func23, Tryz.ntmps23
  go_wp2_with fail
  refine (paNone_nil _).mono ?_
  rintro e w' ⟨rfl, rfl⟩
  go_wp2_with fail
  exact ⟨rfl, .tuple #[.slice none 0 0, .int .i64 0, .int .i64 1], by simp [results, Tryz.results23, go_sem], rfl, rfl⟩

set_option maxHeartbeats 1000000 in
theorem paMark_nil (a b : Int) (y : Bool) (w : World) : Calls Tryz.prog 19 #[.pointer none, .int .i64 a, .int .i64 b, .bool y] w fun e w' => e = .returned (.int .i64 1) ∧ Below w.heap.size w w' := by
  cases y with
  | false =>
    have HBA := hid (bel_alloc (Below.refl w.heap.size w) (.cells #[.int .i64 4, .int .i64 a, .int .i64 b, .int .i64 0, .slice none 0 0] 31))
    go_enter Tryz.func19, Tryz.ntmps19
    go_wp2_with fail
    refine (paNone_nil _).mono ?_
    rintro e w' ⟨rfl, rfl⟩
    go_wp2_with fail
    go_ret
    exact ⟨rfl, HBA.out⟩
  | true =>
    have HBA := hid (bel_alloc (Below.refl w.heap.size w) (.cells #[.int .i64 3, .int .i64 a, .int .i64 b, .int .i64 0, .slice none 0 0] 31))
    go_enter Tryz.func19, Tryz.ntmps19
    go_wp2_with fail
    refine (paNone_nil _).mono ?_
    rintro e w' ⟨rfl, rfl⟩
    go_wp2_with fail
    go_ret
    exact ⟨rfl, HBA.out⟩

set_option maxHeartbeats 1000000 in
theorem paStable_nil (w : World) : Calls Tryz.prog 13 #[.pointer none] w fun e w' => e = .returned (.int .i64 0) ∧ w = w' := by
  go_enter Tryz.func13, Tryz.ntmps13
  go_wp2_with fail
  refine (paNone_nil _).mono ?_
  rintro e w' ⟨rfl, rfl⟩
  go_wp2_with fail
  go_ret
  exact ⟨rfl, rfl⟩

set_option maxHeartbeats 1000000 in
theorem paEnd_nil (w : World) : Calls Tryz.prog 11 #[.pointer none] w fun e w' => e = .returned (.int .i64 0) ∧ w = w' := by
  go_enter Tryz.func11, Tryz.ntmps11
  go_wp2_with fail
  refine (paNone_nil _).mono ?_
  rintro e w' ⟨rfl, rfl⟩
  go_wp2_with fail
  go_ret
  exact ⟨rfl, rfl⟩

set_option maxHeartbeats 1000000 in
theorem paProds_nil (w : World) : Calls Tryz.prog 24 #[.pointer none] w fun e w' => e = .returned (.slice none 0 0) ∧ w = w' := by
  go_enter Tryz.func24, Tryz.ntmps24
  go_wp2_with fail
  refine (paNone_nil _).mono ?_
  rintro e w' ⟨rfl, rfl⟩
  go_wp2_with fail
  go_ret
  exact ⟨rfl, rfl⟩

set_option maxHeartbeats 1000000 in
theorem paOpens_nil (w : World) : Calls Tryz.prog 20 #[.pointer none] w fun e w' => e = .returned (.slice none 0 0) ∧ w = w' := by
  go_enter Tryz.func20, Tryz.ntmps20
  go_wp2_with fail
  refine (paNone_nil _).mono ?_
  rintro e w' ⟨rfl, rfl⟩
  go_wp2_with fail
  go_ret
  exact ⟨rfl, rfl⟩

set_option maxHeartbeats 1000000 in
theorem paGones_nil (w : World) : Calls Tryz.prog 25 #[.pointer none] w fun e w' => e = .returned (.slice none 0 0) ∧ w = w' := by
  go_enter Tryz.func25, Tryz.ntmps25
  go_wp2_with fail
  refine (paNone_nil _).mono ?_
  rintro e w' ⟨rfl, rfl⟩
  go_wp2_with fail
  go_ret
  exact ⟨rfl, rfl⟩

set_option maxHeartbeats 4000000 in
theorem partNone_any (k pd ep sq : Int) (ba : Option Addr) (bn bc : Nat) (n : Int) (y : Bool) (w : World) : Calls Tryz.prog 6 #[.agg #[.int .i64 k, .int .i64 pd, .int .i64 ep, .int .i64 sq, .slice ba bn bc], .int .i64 n, .bool y] w (AwakePost8 w) := by
  have HBA := hid (bel_alloc (Below.refl w.heap.size w) (.cells #[.int .i64 k, .int .i64 pd, .int .i64 ep, .int .i64 sq, .slice ba bn bc] 31))
  have HBK := hid (Blk.new w #[.int .i64 k, .int .i64 pd, .int .i64 ep, .int .i64 sq, .slice ba bn bc] 31)
  go_enter Tryz.func6, Tryz.ntmps6
  go_wp2_with fail
  generalize w.alloc (.cells #[.int .i64 k, .int .i64 pd, .int .i64 ep, .int .i64 sq, .slice ba bn bc] 31) = w0 at HBA HBK ⊢
  have z0 := HBK.out.cell (i := 0) (v := .int .i64 k) rfl
  have z1 := HBK.out.cell (i := 1) (v := .int .i64 pd) rfl
  have z2 := HBK.out.cell (i := 2) (v := .int .i64 ep) rfl
  have z3 := HBK.out.cell (i := 3) (v := .int .i64 sq) rfl
  have z4 := HBK.out.cell (i := 4) (v := .slice ba bn bc) rfl
  refine (paOpen_nil _).mono ?_
  rintro e w1 ⟨rfl, rfl⟩
  go_wp2_with fail
  refine (paPut_nil k pd ep sq ba bn bc _).mono ?_
  rintro e w2 ⟨rfl, hb2⟩
  have HB2 := hid (bel_next HBA.out hb2)
  clear hb2 HBA HBK z0 z1 z2 z3 z4
  go_wp2_with fail
  refine (paFetch_nil n 1 y _).mono ?_
  rintro e w3 ⟨rfl, rfl⟩
  go_wp2_with fail
  refine (paMark_nil 1 1 y _).mono ?_
  rintro e w4 ⟨rfl, hb4⟩
  have HB4 := hid (bel_next HB2.out hb4)
  clear hb4 HB2
  go_wp2_with fail
  refine (paStable_nil _).mono ?_
  rintro e w5 ⟨rfl, rfl⟩
  go_wp2_with fail
  refine (paEnd_nil _).mono ?_
  rintro e w5 ⟨rfl, rfl⟩
  go_wp2_with fail
  refine (paProds_nil _).mono ?_
  rintro e w5 ⟨rfl, rfl⟩
  go_wp2_with fail
  refine (paOpens_nil _).mono ?_
  rintro e w5 ⟨rfl, rfl⟩
  go_wp2_with fail
  refine (paGones_nil _).mono ?_
  rintro e w5 ⟨rfl, rfl⟩
  go_wp2_with fail
  refine (awake08_any _).mono ?_
  rintro e w6 ⟨rfl, hb6⟩
  have HB6 := hid (bel_next HB4.out hb6)
  clear HB4 hb6
  go_wp2_with fail
  go_ret
  exact ⟨rfl, HB6.out⟩
theorem partNone_val (b : PBat) (B : Value) {w : World} (h : InRecs w B b.l) (n : Int) (y : Bool) (w : World) : Calls Tryz.prog 6 #[b.val B, .int .i64 n, .bool y] w (AwakePost8 w) := by
  obtain ⟨ad, cap, rfl, _⟩ := h
  exact partNone_any b.kind b.pid b.epoch b.seq ad b.l.length cap n y w
end Go.Proofs.YtgjkjkeeblbjlaaGreatDoor
