/-
  The law's example: the walk of awake.
-/
import Derived.Test.YtnibpknhpjcamaaGreatDoorAwakeP
import Derived.BigQuiet
import Derived.Deep.QuietTactic
set_option maxRecDepth 100000
namespace Go.Proofs.YtnibpknhpjcamaaGreatDoor
open Go.RowKit

theorem aw_lwf : aL1.WF := ⟨by decide +kernel, by decide +kernel, by decide +kernel, by decide +kernel, by decide +kernel, by decide +kernel, by decide +kernel⟩
theorem aw_pos : ∀ x ∈ aL1.segs, (aD1.read (segName aL1.name x.base)).2 = 0 → 0 ≤ fromL 2 x.marks ∧ fromL 2 x.marks ≤ (aD1.read (segName aL1.name x.base)).1.length := by decide +kernel
theorem aw_wf0 : aD.WF 9 := ⟨by simp [aD, Sorted], by simp [aD], by simp [aD], by decide, by decide +kernel, by decide, by decide, by decide⟩
theorem aw_one : ∃ f, aD1.files = [f] ∧ f.name = [97, 46, 48, 48, 48, 48, 48, 48, 48, 48, 48, 48, 48, 48, 48] := by
  have h := aw_names
  cases hf : aD1.files with
  | nil => rw [hf] at h; cases h
  | cons f l =>
    rw [hf] at h
    cases l with
    | nil => exact ⟨f, rfl, by simpa using h⟩
    | cons g l => simp at h
theorem aw_sum : aD1.room + sumBlk aD1.files = 9 := by decide +kernel
theorem aw_ok : ∀ f ∈ aD1.files, okName f.name = true := by decide +kernel
theorem aw_num : 0 ≤ aD1.room ∧ -1 ≤ aD1.fuse ∧ aD1.fuse ≤ 9223372036854775807 := by decide +kernel
theorem aw_wf1 : aD1.WF 9 := by
  obtain ⟨f, hf, _⟩ := aw_one
  exact ⟨by rw [hf]; simp [Sorted], aw_ok, by rw [hf]; simp, aw_num.1, aw_sum, by decide, aw_num.2.1, aw_num.2.2⟩

def AwakePost (w : World) (e : Ending) (w' : World) : Prop := e = .returned (.bool true) ∧ Below w.heap.size w w'

set_option maxHeartbeats 1000000 in
theorem awake_any (w : World) : Calls Tryz.prog 17 #[] w (AwakePost w) := by
  go_enter Tryz.func17, Tryz.ntmps17
  go_wp2_with fail
  refine (new_any 9 w (by omega)).mono ?_
  rintro e w1 ⟨rfl, hd, hb1⟩
  unfold ptr
  have hda : DiskAt w1 (w.heap.size + 1) (foot (w.heap.size + 1) w.heap.size []) aD := ⟨_, _, hd, fun _ => Iff.rfl⟩
  have hS0 : ∀ k, foot (w.heap.size + 1) w.heap.size [] k → w.heap.size ≤ k := by
    rintro k (rfl | rfl | h)
    · omega
    · omega
    · simp at h
  generalize foot (w.heap.size + 1) w.heap.size [] = SD at hda hS0
  clear hd
  generalize hdn : w.heap.size + 1 = d at hda ⊢
  clear hdn
  go_wp2_with fail
  refine (open_fresh (N := 9) ⟨#[97]⟩ hda aw_wf0 rfl rfl (by decide) (by decide)).mono ?_
  rintro e w2 ⟨l, rfl, hl, hlog, hb2⟩
  unfold ptr
  go_wp2_with fail
  have hba := Below.refl w2.heap.size w2
  have hb3 : Below w2.heap.size w2 (w2.alloc (.cells #[.int .i64 1, .string ⟨#[120]⟩, .int .i64 3, .string ⟨#[121]⟩] 58)) := bel_alloc hba _
  have hda2 := (hda.below hb2).below hb3
  have hlog2 := hlog.below hb3
  have hbw : Below w.heap.size w (w2.alloc (.cells #[.int .i64 1, .string ⟨#[120]⟩, .int .i64 3, .string ⟨#[121]⟩] 58)) := bel_next hb1 (bel_next hb2 hb3)
  have hlw : w.heap.size ≤ l := Nat.le_trans hb1.size hl
  have hit : Reads (w2.alloc (.cells #[.int .i64 1, .string ⟨#[120]⟩, .int .i64 3, .string ⟨#[121]⟩] 58)) (.slice (some ⟨w2.heap.size, 0, none⟩) 2 2) aI.length 2 (itemCells aI) := by
    refine ⟨rfl, _, _, rfl, fun j u hj => ⟨_, rfl, ?_⟩⟩
    have h := cells_new w2 (itemCells aI) 58 j u hj
    have e : (⟨w2.heap.size, 0, none⟩ : Addr).add j = ⟨w2.heap.size, j, none⟩ := by
      cases j with
      | zero => simp [Addr.add]
      | succ j => simp [Addr.add]
    rw [e] at h
    exact h
  generalize w2.alloc (.cells #[.int .i64 1, .string ⟨#[120]⟩, .int .i64 3, .string ⟨#[121]⟩] 58) = w3 at hda2 hlog2 hbw hit ⊢
  generalize (Value.slice (some ⟨w2.heap.size, 0, none⟩) 2 2) = iv at hit ⊢
  clear hb1 hb2 hb3 hba hda hlog hl
  refine (append_first (S := fun k => k = l) (SD := SD) (L := aL) (N := 9) iv aI hlog2 hda2 aw_wf0 ⟨by decide, by decide, by decide, by decide, by decide, by decide, by decide⟩ hit (by decide) rfl (by decide) (by decide)).mono ?_
  rintro e w4 ⟨rfl, S1, SD1, hl4, hd4, hfr, _, _⟩
  rw [aw_ret]
  have hl4 : LogAt w4 l d S1 aL1 := hl4
  have hd4 : DiskAt w4 d SD1 aD1 := hd4
  have hb4 : Below w.heap.size w w4 := by
    refine hbw.trans (hfr.to_below hbw.size ?_)
    rintro k hk (rfl | h)
    · omega
    · have := hS0 k h; omega
  clear hfr hit hbw hlog2 hda2 hS0
  go_wp2_with fail
  refine (fetch_any (N := 9) 2 1 hl4 hd4 aw_wf1 aw_lwf aw_pos).mono ?_
  rintro e w5 ⟨v, rfl, hrow, hb5⟩
  rw [aw_fetch] at hrow ⊢
  have hl5 := hl4.below hb5
  have hd5 := hd4.below hb5
  have hb6 := bel_next hb4 hb5
  clear hb4 hb5 hl4 hd4
  go_wp2_with fail
  refine (files_any d SD1 aD1 9 _ hd5 aw_wf1).mono ?_
  rintro e w6 ⟨v2, rfl, hrow2, hb7⟩
  have hl6 := hl5.below hb7
  have hb8 := bel_next hb6 hb7
  have hrow1 := own_bel hrow hb7
  obtain ⟨f, hf1, hf2⟩ := aw_one
  rw [hf1] at hrow2
  clear hrow hl5 hd5 hb6 hb7
  obtain ⟨g1, cap1, rfl, e0, e1, e2⟩ : ∃ g cap, v = .slice (some ⟨g, 0, none⟩) 1 cap ∧ w6.cell? ⟨g, 0, none⟩ = some (.int .i64 1) ∧ w6.cell? ⟨g, 1, none⟩ = some (.int .i64 3) ∧ w6.cell? ⟨g, 2, none⟩ = some (.string ⟨#[121]⟩) := by
    rcases Joins.ownsRow_forms hrow1 with ⟨_, hz⟩ | ⟨g, cap, rfl⟩
    · simp at hz
    · exact ⟨g, cap, rfl, hrow1.cellAt 0 (by decide), hrow1.cellAt 1 (by decide), hrow1.cellAt 2 (by decide)⟩
  obtain ⟨g2, cap2, rfl, f0⟩ : ∃ g cap, v2 = .slice (some ⟨g, 0, none⟩) 1 cap ∧ w6.cell? ⟨g, 0, none⟩ = some (.string ⟨#[97, 46, 48, 48, 48, 48, 48, 48, 48, 48, 48, 48, 48, 48, 48]⟩) := by
    rcases Joins.ownsRow_forms hrow2 with ⟨_, hz⟩ | ⟨g, cap, rfl⟩
    · simp at hz
    · refine ⟨g, cap, rfl, ?_⟩
      rw [hrow2.cellAt 0 (by simp)]
      simp [fileCells, hf2, bs]
  clear hrow1 hrow2 hf1 hf2 f
  have HL := hid hl6
  have HB := hid hb8
  clear hl6 hb8
  go_wp2_with fail
  refine (next_any HL.out).mono ?_
  rintro e w7 ⟨rfl, rfl⟩
  rw [aw_next]
  go_wp2_with fail
  go_ret
  exact ⟨rfl, HB.out⟩
end Go.Proofs.YtnibpknhpjcamaaGreatDoor
