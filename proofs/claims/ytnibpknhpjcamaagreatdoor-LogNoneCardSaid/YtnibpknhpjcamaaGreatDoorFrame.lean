/-
  Package frame (chapter 3): the frames of entries on lists of bytes, and the walks. Conditions: texts that fit.
-/
import Derived.Test.YtnibpknhpjcamaaGreatDoorVarW2
import Derived.Test.YtnibpknhpjcamaaGreatDoorCrc2
import Derived.Deep.RegionHeld3
set_option maxRecDepth 100000
namespace Go.Proofs.YtnibpknhpjcamaaGreatDoor
open Go.RowKit

/-- An entry of a log. -/
structure Ent where
  base : Int
  n : Int
  text : List UInt8

/-- May it be? -/
def Ent.ok (e : Ent) : Prop := 0 ≤ e.base ∧ e.base ≤ 1099511627776 ∧ 1 ≤ e.n ∧ e.n ≤ 64 ∧ e.text.length ≤ 65536
instance (e : Ent) : Decidable e.ok := by unfold Ent.ok; exact inferInstance

/-- Its frame. -/
def Ent.lay (e : Ent) : List UInt8 := sealL (putTextL (putAllL [e.base, e.n] ++ e.text))

def Ent.val (e : Ent) : Value := .agg #[.int .i64 e.base, .int .i64 e.n, .string (bs e.text)]

theorem check_ok (b n : Int) (t : ByteArray) (w : World) (h1 : 0 ≤ b) (h2 : b ≤ 1099511627776) (h3 : 1 ≤ n) (h4 : n ≤ 64) (h5 : t.size ≤ 65536) :
    Calls Tryz.prog 56 #[.agg #[.int .i64 b, .int .i64 n, .string t]] w fun e w' => e = .returned (.int .i64 0) ∧ Below w.heap.size w w' := by
  go_enter Tryz.func56, Tryz.ntmps56
  go_wp2_with fail
  go_ret
  exact ⟨rfl, (Below.refl _ _).alloc (Nat.le_refl _) _⟩

set_option maxHeartbeats 1000000 in
theorem check_bad (b n : Int) (t : ByteArray) (w : World) (h : ¬ (0 ≤ b ∧ b ≤ 1099511627776 ∧ 1 ≤ n ∧ n ≤ 64 ∧ t.size ≤ 65536)) :
    Calls Tryz.prog 56 #[.agg #[.int .i64 b, .int .i64 n, .string t]] w fun e w' => e = .returned (.int .i64 1) ∧ Below w.heap.size w w' := by
  have H := hid h
  clear h
  go_enter Tryz.func56, Tryz.ntmps56
  go_wp2_with fail
  all_goals first
    | (have h := H.out; exfalso; apply h; refine ⟨?_, ?_, ?_, ?_, ?_⟩ <;> omega)
    | (go_ret; exact ⟨rfl, (Below.refl _ _).alloc (Nat.le_refl _) _⟩)

theorem Ent.lay_len (e : Ent) (h : e.ok) : e.lay.length ≤ 65536 + 100 := by
  obtain ⟨h1, h2, h3, h4, h5⟩ := h
  have hp : (putAllL [e.base, e.n]).length ≤ 20 := putAllL_len _ (by
    intro x hx
    simp at hx
    rcases hx with rfl | rfl <;> omega)
  have hq : (putL ((putAllL [e.base, e.n] ++ e.text).length : Int)).length ≤ 10 := putL_len _ (by omega) (by simp; omega)
  unfold Ent.lay sealL putTextL
  simp [sum4_len] at hq ⊢
  omega

theorem putAll2 (b c : Nat) (x y : Int) (w : World) (hx : -9223372036854775808 ≤ x ∧ x ≤ 9223372036854775807) (hy : -9223372036854775808 ≤ y ∧ y ≤ 9223372036854775807)
    (h0 : w.cell? ⟨b, 0, none⟩ = some (.int .i64 x)) (h1 : w.cell? ⟨b, 1, none⟩ = some (.int .i64 y)) :
    Calls Tryz.prog 91 #[.slice (some ⟨b, 0, none⟩) 2 c] w fun e w' => e = .returned (.string (bs (putAllL [x, y]))) ∧ Below w.heap.size w w' :=
  putAll_any b c [x, y] w (by simp) (by
    intro z hz
    simp at hz
    rcases hz with rfl | rfl
    · exact hx
    · exact hy) (by
    intro i hi
    rcases i with _ | _ | i
    · exact h0
    · exact h1
    · exact absurd hi (by simp))

theorem seal_bs (l : List UInt8) (w : World) (hs : l.length ≤ 140737488355000) :
    Calls Tryz.prog 89 #[.string (bs l)] w fun e w' => e = .returned (.string (bs (sealL l))) ∧ Below w.heap.size w w' := by
  have h := seal_any (bs l) w (by rw [bs_size]; exact hs)
  rw [tl_bs] at h
  exact h

theorem putText_bs (l : List UInt8) (w : World) (hs : l.length ≤ 140737488355328) :
    Calls Tryz.prog 90 #[.string (bs l)] w fun e w' => e = .returned (.string (bs (putTextL l))) ∧ Below w.heap.size w w' := by
  have h := putText_any (bs l) w (by rw [bs_size]; exact hs)
  rw [tl_bs] at h
  exact h

theorem putText_cat (a b : List UInt8) (w : World) (hs : (a ++ b).length ≤ 140737488355328) :
    Calls Tryz.prog 90 #[.string (bs a ++ bs b)] w fun e w' => e = .returned (.string (bs (putTextL (a ++ b)))) ∧ Below w.heap.size w w' := by
  rw [bs_append]; exact putText_bs _ w hs

set_option maxHeartbeats 1000000 in
theorem lay_ok (x : Ent) (w : World) (h : x.ok) :
    Calls Tryz.prog 57 #[x.val] w fun r w' => r = .returned (.tuple #[.string (bs x.lay), .int .i64 0]) ∧ Below w.heap.size w w' := by
  obtain ⟨b, n, t⟩ := x
  unfold Ent.val
  obtain ⟨h1, h2, h3, h4, h5⟩ := h
  simp only at h1 h2 h3 h4 h5 ⊢
  go_enter Tryz.func57, Tryz.ntmps57
  go_wp2_with fail
  refine (check_ok _ _ _ _ h1 h2 h3 h4 (by rw [bs_size]; exact h5)).mono ?_
  rintro e w1 ⟨rfl, hb⟩
  go_wp2_with fail
  have hblk : Blk w1 w.heap.size #[.int .i64 b, .int .i64 n, .string (bs t)] 37 := (Blk.new _ _ _).below' hb
  have c0 := hblk.cell (i := 0) (v := .int .i64 b) rfl
  have c1 := hblk.cell (i := 1) (v := .int .i64 n) rfl
  have c2 := hblk.cell (i := 2) (v := .string (bs t)) rfl
  have hlt := hblk.lt
  have hp : (putAllL [b, n]).length ≤ 20 := putAllL_len _ (by
    intro x hx
    simp at hx
    rcases hx with rfl | rfl <;> omega)
  have hsum : (bs (putAllL [b, n])).size + (bs t).size ≤ 9223372036854775807 := by rw [bs_size, bs_size]; omega
  have hsum2 : ¬ 9223372036854775807 < (bs (putAllL [b, n])).size + (bs t).size := by omega
  have hl1 : (putAllL [b, n] ++ t).length ≤ 65556 := by rw [List.length_append]; omega
  have hl2 : (putTextL (putAllL [b, n] ++ t)).length ≤ 65566 := by
    have hq : (putL ((putAllL [b, n] ++ t).length : Int)).length ≤ 10 := putL_len _ (by omega) (by omega)
    unfold putTextL
    rw [List.length_append]; omega
  go_region_held3 (fun w' => w'.cell? ⟨w.heap.size, 0, none⟩ = some (.int .i64 b) ∧ w'.cell? ⟨w.heap.size, 1, none⟩ = some (.int .i64 n) ∧ w'.cell? ⟨w.heap.size, 2, none⟩ = some (.string (bs t))) (go_keep)
    ((first
      | (go_at_call 91; refine (putAll2 _ _ b n _ (by omega) (by omega) ?_ ?_).mono ?_; (go_simp); (go_simp); rintro e w2 ⟨rfl, hb2⟩; have d20 : w2.cell? ⟨w.heap.size, 0, none⟩ = some (.int .i64 b) := (hb2.cell (by (try simp); omega)).trans (by go_simp); have d21 : w2.cell? ⟨w.heap.size, 1, none⟩ = some (.int .i64 n) := (hb2.cell (by (try simp); omega)).trans (by go_simp); have d22 : w2.cell? ⟨w.heap.size, 2, none⟩ = some (.string (bs t)) := (hb2.cell (by (try simp); omega)).trans (by go_simp); have hz2 := hb2.size; (try simp at hz2))
      | (go_at_call 90; refine (putText_cat _ _ _ (by omega)).mono ?_; rintro e w3 ⟨rfl, hb3⟩; have d30 : w3.cell? ⟨w.heap.size, 0, none⟩ = some (.int .i64 b) := (hb3.cell (by (try simp); omega)).trans (by go_simp); have d31 : w3.cell? ⟨w.heap.size, 1, none⟩ = some (.int .i64 n) := (hb3.cell (by (try simp); omega)).trans (by go_simp); have d32 : w3.cell? ⟨w.heap.size, 2, none⟩ = some (.string (bs t)) := (hb3.cell (by (try simp); omega)).trans (by go_simp); have hz3 := hb3.size; (try simp at hz3))
      | (go_at_call 89; refine (seal_bs _ _ (by omega)).mono ?_; rintro e w4 ⟨rfl, hb4⟩; have d40 : w4.cell? ⟨w.heap.size, 0, none⟩ = some (.int .i64 b) := (hb4.cell (by (try simp); omega)).trans (by go_simp); have d41 : w4.cell? ⟨w.heap.size, 1, none⟩ = some (.int .i64 n) := (hb4.cell (by (try simp); omega)).trans (by go_simp); have d42 : w4.cell? ⟨w.heap.size, 2, none⟩ = some (.string (bs t)) := (hb4.cell (by (try simp); omega)).trans (by go_simp); have hz4 := hb4.size; (try simp at hz4))))
  go_wp2
  go_ret2
  exact ⟨rfl, bel_next (bel_next (bel_next (bel_alloc (bel_next (bel_alloc (Below.refl _ _) _) hb) _).drew hb2) hb3) hb4⟩

set_option maxHeartbeats 1000000 in
theorem lay_bad (x : Ent) (w : World) (h : ¬ x.ok) :
    Calls Tryz.prog 57 #[x.val] w fun r w' => r = .returned (.tuple #[.string (bs []), .int .i64 1]) ∧ Below w.heap.size w w' := by
  obtain ⟨b, n, t⟩ := x
  unfold Ent.val
  have H := hid h
  clear h
  simp only
  go_enter Tryz.func57, Tryz.ntmps57
  go_wp2_with fail
  refine (check_bad _ _ _ _ (by rw [bs_size]; exact H.out)).mono ?_
  rintro e w1 ⟨rfl, hb⟩
  go_wp2_with fail
  go_ret2
  exact ⟨rfl, bel_next (bel_alloc (Below.refl _ _) _) hb⟩

end Go.Proofs.YtnibpknhpjcamaaGreatDoor
