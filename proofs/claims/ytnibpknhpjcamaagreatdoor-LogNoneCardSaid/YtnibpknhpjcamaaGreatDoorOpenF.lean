/-
  seglog: Open on a disk that has no file: the walk.
-/
import Derived.Test.YtnibpknhpjcamaaGreatDoorLogF
import Derived.Test.YtnibpknhpjcamaaGreatDoorLogA
set_option maxRecDepth 100000
namespace Go.Proofs.YtnibpknhpjcamaaGreatDoor
open Go.RowKit

/-- A new log. -/
theorem LogAt.made {w : World} {l d : Nat} {name : List UInt8} (h : Blk w l #[ptr d, .string (bs name), .slice none 0 0, .int .i64 0, .int .i64 0, .int .i64 0, .int .i64 0] 97) :
    LogAt w l d (fun k => k = l) ⟨name, [], 0, 0, 0, 0⟩ := by
  refine ⟨[], .slice none 0 0, ⟨h, rfl, World.ownsRow_nil _ _ _ _, fun i x v hx _ => by simp at hx, fun i j a b k ha _ _ _ => by simp at ha⟩, fun k => ?_⟩
  constructor
  · rintro rfl; exact .inl rfl
  · rintro (h | h | ⟨v, hv, _⟩)
    · exact h
    · simp [Value.ownBlock] at h
    · simp at hv

def FreshPost (w : World) (d : Nat) (name : List UInt8) (e : Ending) (w' : World) : Prop :=
  ∃ l, e = .returned (.tuple #[ptr l, .int .i64 0]) ∧ w.heap.size ≤ l ∧ LogAt w' l d (fun k => k = l) ⟨name, [], 0, 0, 0, 0⟩ ∧ Below w.heap.size w w'

set_option maxHeartbeats 1000000 in
theorem open_fresh {w : World} {d : Nat} {S : Nat → Prop} {D : PDisk} {N : Int} (s : ByteArray) (h : DiskAt w d S D) (hw : D.WF N) (hf : D.files = []) (ho : D.off = false) (hs : okLog (tl s) = true) (hs2 : s.size ≤ 8) :
    Calls Tryz.prog 34 #[ptr d, .string s] w (FreshPost w d (tl s)) := by
  have HD := hid h
  have HW := hid hw
  have HF := hid hf
  have HS := hid hs
  have HO := hid ho
  have HS2 := hid hs2
  clear h hw hf hs ho hs2
  unfold ptr
  go_enter Tryz.func34, Tryz.ntmps34
  go_wp2_with fail
  refine (logNamed_any s _ (by have := HS2.out; omega)).mono ?_
  rintro e w1 ⟨rfl, hb1⟩
  rw [HS.out]
  go_wp2_with fail
  refine (off_any d S D _ (HD.out.below hb1)).mono ?_
  rintro e w2 ⟨rfl, rfl⟩
  rw [HO.out]
  go_wp2_with fail
  have hb2 : Below w.heap.size w (w1.alloc (.cells #[.pointer (some ⟨d, 0, none⟩), .string s, .slice none 0 0, .int .i64 0, .int .i64 0, .int .i64 0, .int .i64 0] 97)) := bel_alloc hb1 _
  refine (files_any d S D N _ (HD.out.below hb2) HW.out).mono ?_
  rintro e w2 ⟨v, rfl, hrow, hb3⟩
  obtain ⟨ad, cap, rfl⟩ := row_slice hrow
  rw [HF.out] at hrow ⊢
  have hblk := (Blk.new w1 #[.pointer (some ⟨d, 0, none⟩), .string s, .slice none 0 0, .int .i64 0, .int .i64 0, .int .i64 0, .int .i64 0] 97).below' hb3
  have hb4 := bel_next hb2 hb3
  have hle := hb1.size
  clear hrow hb2 hb3
  generalize w1.heap.size = l at hblk hle ⊢
  have HB := hid hblk
  have HB4 := hid hb4
  have c4 := hblk.cell (i := 4) (v := .int .i64 0) rfl
  have c5 := hblk.cell (i := 5) (v := .int .i64 0) rfl
  have f5 := hblk.free 5
  clear hblk hb4 hb1
  go_wp2_with fail
  go_loopw [39, 8] (fun c v wr => c = .int .i64 0 ∧ v = .string ⟨#[]⟩ ∧ wr = w2) (fun _ _ _ => 0)
  case atStart => exact ⟨rfl, rfl, rfl⟩
  case round =>
    obtain ⟨rfl, rfl, rfl⟩ := hrel
    go_wp2_with fail
    go_loopw [56] (fun c wx => c = .int .i64 0 ∧ wx = wr) (fun _ _ => 0)
    case atStart => exact ⟨rfl, rfl⟩
    case round =>
      obtain ⟨rfl, rfl⟩ := hrel
      go_wp2_with fail
      go_ret2
      have hst : Blk (wr.setCell ⟨l, 5, none⟩ (.int .i64 0)) l #[.pointer (some ⟨d, 0, none⟩), .string s, .slice none 0 0, .int .i64 0, .int .i64 0, .int .i64 0, .int .i64 0] 97 := by
        have h9 := HB.out.set 5 (.int .i64 0)
        simpa using h9
      refine ⟨l, rfl, hle, LogAt.made (by rw [bs_tl]; exact hst), ?_⟩
      · exact HB4.out.setCell hle _

end Go.Proofs.YtnibpknhpjcamaaGreatDoor
