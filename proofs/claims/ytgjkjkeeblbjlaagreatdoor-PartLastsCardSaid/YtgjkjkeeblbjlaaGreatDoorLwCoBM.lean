/-
  Rows that are read, and the records that they come to. No conditions.
-/
import Derived.Test.YtgjkjkeeblbjlaaGreatDoorJQM
import Derived.Test.YtgjkjkeeblbjlaaGreatDoorJPM
import Derived.Maps.AppendAt
import Derived.BigRegion
set_option maxRecDepth 100000
namespace Go.Proofs.YtgjkjkeeblbjlaaGreatDoor
open Go.RowKit

/-- A row of records, read. -/
structure RowRd (w : World) (ra : Option Addr) (rcap : Nat) (rows : List RCell) (base : Nat) : Prop where
  row : w.ownsRow base 33 7 (.slice ra rows.length rcap) rows.length (rwsCells rows)
  reads : ∀ x ∈ rows, InRecs w x.B x.r.b.l

theorem RowRd.below {w w2 : World} {ra : Option Addr} {rcap base : Nat} {rows : List RCell} (h : RowRd w ra rcap rows base) (hb : Below w.heap.size w w2) : RowRd w2 ra rcap rows base := ⟨own_bel h.row hb, fun x hx => (h.reads x hx).below hb⟩

theorem RowRd.at {w : World} {ra : Option Addr} {rcap base : Nat} {rows : List RCell} (h : RowRd w ra rcap rows base) {k : Nat} {x : RCell} (hx : rows[k]? = some x) :
    ∃ g, ra = some ⟨g, 0, none⟩ ∧ ∀ r u, (rwCells x)[r]? = some u → w.cell? ⟨g, k * 7 + r, none⟩ = some u := by
  have hk : k < rows.length := (List.getElem?_eq_some_iff.1 hx).1
  rcases Joins.ownsRow_forms h.row with ⟨_, hz⟩ | ⟨g, cap, h9⟩
  · omega
  · injection h9 with h9
    subst h9
    refine ⟨g, rfl, fun r u hu => ?_⟩
    have hr9 : r < 7 := (List.getElem?_eq_some_iff.1 hu).1
    rw [h.row.cellAt (k * 7 + r) (by omega), rws_at rows k x hx r hr9]
    exact hu

theorem recsAt_take {base : Int} {l : List PRec} {j : Nat} {x : PRec} (hx : l[j]? = some x) : recsAt base (l.take (j + 1)) = recsAt base (l.take j) ++ [⟨base + j, x⟩] := by
  have hj := (List.getElem?_eq_some_iff.1 hx).1
  have hl : (l.take j).length = j := by rw [List.length_take]; omega
  unfold recsAt
  rw [List.take_add_one, hx, Option.toList_some, List.mapIdx_append, hl]
  simp

theorem all_take {rows : List RCell} {n : Nat} {x : RCell} (hx : rows[n]? = some x) : allP ((rows.take (n + 1)).map RCell.r) = allP ((rows.take n).map RCell.r) ++ recsAt x.r.base x.r.b.l := by
  unfold allP
  rw [List.take_add_one, hx, Option.toList_some, List.map_append, List.flatMap_append]
  simp

theorem recs_len {base : Int} {l : List PRec} : (recsAt base l).length = l.length := by unfold recsAt; rw [List.length_mapIdx]

theorem want_len {l : List PRow} (h : ∀ r ∈ l, r.b.l.length ≤ 64) (st : Int) : (wantP l st).length ≤ 64 * l.length ∧ (allP l).length ≤ 64 * l.length := by
  induction l with
  | nil => exact ⟨Nat.le_refl _, Nat.le_refl _⟩
  | cons r l ih =>
    obtain ⟨i1, i2⟩ := ih (fun x hx => h x (List.mem_cons_of_mem _ hx))
    have h1 := h r (by simp)
    have e1 : allP (r :: l) = recsAt r.base r.b.l ++ allP l := rfl
    have e2 : wantP (r :: l) st = (if (decide (r.base < st) && decide (r.fin ≠ 4)) = true then recsAt r.base r.b.l else []) ++ wantP l st := by
      unfold wantP
      rw [List.filter_cons]
      split <;> rfl
    rw [e1, e2, List.length_append, List.length_append, recs_len, List.length_cons, Nat.mul_add]
    refine ⟨?_, by omega⟩
    split
    · rw [recs_len]; omega
    · simp only [List.length_nil]; omega
end Go.Proofs.YtgjkjkeeblbjlaaGreatDoor
