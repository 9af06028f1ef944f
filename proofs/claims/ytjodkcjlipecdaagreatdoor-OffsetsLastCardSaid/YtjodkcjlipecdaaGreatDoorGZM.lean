/-
  Offsets: what a deed leaves of what is committed; rows that stay behind a call on offsets. No conditions.
  Chapter 11's laws: how many partitions. No conditions.
-/
import Derived.Test.YtjodkcjlipecdaaGreatDoorGVM
import Derived.Test.YtjodkcjlipecdaaGreatDoorGYM
set_option maxRecDepth 100000
namespace Go.Proofs.YtjodkcjlipecdaaGreatDoor
open Go.RowKit

structure ORise (O O' : POff) (x : ODeed) : Prop where
  len : O'.com.length = O.com.length
  gen : O.gen ≤ O'.gen
  next : O.next ≤ O'.next
  rise : ∀ p, O.isPart p → O.at p ≤ O'.at p
  moved : ∀ p, O.isPart p → O.at p ≠ O'.at p → (x.kind = 4 ∨ x.kind = 5) ∧ x.yes = true ∧ ∃ y ∈ O.pend, y.part = p ∧ y.off = O'.at p ∧ y.pid = x.a

theorem OStep.rises {O O' : POff} {x : ODeed} (h : O.Ok) (hs : OStep O O' x) : ORise O O' x := by
  rcases hs with rfl | ⟨n, hf, hn⟩
  · exact ⟨rfl, Int.le_refl _, Int.le_refl _, fun p _ => Int.le_refl _, fun p _ h9 => absurd rfl h9⟩
  · have hF := h.folds hf
    refine ⟨hF.len, hF.gen, hF.next, hF.rise, fun p hp h9 => ?_⟩
    obtain ⟨k1, k2, y, hy, e1, e2, e3⟩ := hF.moved p hp h9
    obtain ⟨g1, g2, g3⟩ := hn k1 k2
    exact ⟨g1, g2, y, hy, e1, e2, e3.trans g3⟩

/-- While the power stays. -/
theorem OGood.does_good {parts : Nat} {N : Int} {O : POff} {A : ALog} {D : PDisk} (h : OGood parts N O A D) (hp : parts ≤ 4) (hfu : D.fuse = -1) (x : ODeed) :
    GoodOut parts N (O.does A.toP D x) ∧ OStep O (O.does A.toP D x).1 x := by
  have h9 := h.does hp x
  generalize O.does A.toP D x = r at h9
  cases h9 with
  | good O' A' D' c good step fuse => exact ⟨⟨A', rfl, good, fuse hfu⟩, step⟩
  | dark A' D' dark was => exact absurd hfu was

section
variable {w w0 w1 : World} {o l d : Nat} {S SL SD : Nat → Prop} {O O1 : POff} {L L1 : PLog} {D D1 : PDisk} {base : Nat} {e : TypeId} {size : Nat} {v : Value} {n : Nat} {xs : List Value}

/-- A row of another type stays. -/
theorem Offs.typed (h : Offs w o l d S SL SD O L D) (hto : OffsTo w w1 o l d S SL SD O1 L1 D1) (hr : w.ownsRow base e size v n xs)
    (h1 : e ≠ 159 ∧ e ≠ 3 ∧ e ≠ 78) (h2 : e ≠ 112 ∧ e ≠ 122 ∧ e ≠ 201) (h3 : e ≠ 98 ∧ e ≠ 144) : w1.ownsRow base e size v n xs := by
  obtain ⟨S1, SL1, SD1, a1, f1, _⟩ := hto
  refine row_fr hr f1 (fun k hk h9 => ?_)
  rcases hr.2 with ⟨h4, _⟩ | ⟨g, c, cur, h4, _, h6, _⟩
  · rw [h4] at hk; cases hk
  · rw [h4] at hk
    injection hk with hk
    subst hk
    have hb : Blk w g cur e := h6
    rcases h9 with h9 | h9 | h9
    · obtain ⟨c2, T, h7, hT⟩ := h.off.kind h9
      have h8 := (hb.inj h7).2
      rcases hT with rfl | rfl | rfl
      · exact h1.1 h8
      · exact h1.2.1 h8
      · exact h1.2.2 h8
    · exact h.log.other h6 h2.1 h2.2.1 h2.2.2 h9
    · exact h.disk.other hb h3.1 h3.2 h9

/-- A row that was made behind them stays. -/
theorem Offs.past (h : Offs w0 o l d S SL SD O L D) (hto : OffsTo w w1 o l d S SL SD O1 L1 D1) (hr : w.ownsRow w0.heap.size e size v n xs) : w1.ownsRow w0.heap.size e size v n xs := by
  obtain ⟨S1, SL1, SD1, a1, f1, _⟩ := hto
  refine row_fr hr f1 (fun k hk h9 => ?_)
  have h4 := (hr.lt k hk).1
  rcases h9 with h9 | h9 | h9
  · have := h.off.lt h9; omega
  · have := h.log.lt h9; omega
  · have := h.disk.lt h9; omega
end

/-- Deeds of the call's own, read. -/
theorem OutODeeds.at {w : World} {base : Nat} {v : Value} {q : List OCell} (h : w.ownsRow base 68 9 v q.length (odsCells q)) {k : Nat} {x : OCell} (hx : q[k]? = some x) :
    ∃ g cap, v = .slice (some ⟨g, 0, none⟩) q.length cap ∧ g < w.heap.size ∧ ∀ r u, (odCells x.d x.K)[r]? = some u → w.cell? ⟨g, k * 9 + r, none⟩ = some u := by
  have hk : k < q.length := (List.getElem?_eq_some_iff.1 hx).1
  rcases Joins.ownsRow_forms h with ⟨_, hz⟩ | ⟨g, cap, rfl⟩
  · omega
  · refine ⟨g, cap, rfl, (h.lt g rfl).2, fun r u hu => ?_⟩
    have hr9 : r < 9 := (List.getElem?_eq_some_iff.1 hu).1
    rw [h.cellAt (k * 9 + r) (by omega), ods_at q k x hx r hr9]
    exact hu

theorem inRow_below {w w' : World} {v : Value} {n size : Nat} {xs : List Value} (h : InRow w v n size xs) (hb : Below w.heap.size w w') : InRow w' v n size xs := by
  obtain ⟨h1, ad, cap, h2, h3, h4, h5⟩ := h
  refine ⟨h1, ad, cap, h2, h3, h4, fun j u hu => ?_⟩
  obtain ⟨a, ha, hc⟩ := h5 j u hu
  exact ⟨a, ha, (hb.cell (p := a.add j) (World.block_lt_of_cell? w _ hc)).trans hc⟩

theorem InODeeds.below {w w' : World} {v : Value} {l : List ODeed} (h : InODeeds w v l) (hb : Below w.heap.size w w') : InODeeds w' v l := by
  obtain ⟨q, h1, h2, h3⟩ := h
  exact ⟨q, h1, inRow_below h2 hb, fun x hx => ⟨inRow_below (h3 x hx).1 hb, (h3 x hx).2⟩⟩

/-- A row of numbers, read. -/
theorem com_row {w : World} {base : Nat} {v : Value} {O : POff} {n : Nat} (h : w.ownsRow base 3 1 v n (comCells O.com)) (hn : O.com.length = n) (h0 : 0 < n) : ∃ g cap, v = .slice (some ⟨g, 0, none⟩) n cap ∧ g < w.heap.size ∧ ∀ p, p < n → w.cell? ⟨g, p, none⟩ = some (.int .i64 (O.at p)) := by
  rcases Joins.ownsRow_forms h with ⟨_, hz⟩ | ⟨g, cap, rfl⟩
  · omega
  · refine ⟨g, cap, rfl, (h.lt g rfl).2, fun p hp => ?_⟩
    rw [h.cellAt p (by omega)]
    unfold comCells POff.at
    rw [List.getElem?_map, List.getElem?_eq_getElem (by omega), List.getD_eq_getElem?_getD, Int.toNat_natCast, List.getElem?_eq_getElem (by omega)]
    rfl

/-- A row of what is pending, read. -/
theorem pend_row {w : World} {base : Nat} {v : Value} {l : List PPend} (h : w.ownsRow base 78 4 v l.length (pendCells l)) {j : Nat} {y : PPend} (hy : l[j]? = some y) : ∃ g cap, v = .slice (some ⟨g, 0, none⟩) l.length cap ∧ g < w.heap.size ∧
    w.cell? ⟨g, j * 4, none⟩ = some (.int .i64 y.pid) ∧ w.cell? ⟨g, j * 4 + 2, none⟩ = some (.int .i64 y.part) ∧ w.cell? ⟨g, j * 4 + 3, none⟩ = some (.int .i64 y.off) := by
  have hj : j < l.length := (List.getElem?_eq_some_iff.1 hy).1
  rcases Joins.ownsRow_forms h with ⟨_, hz⟩ | ⟨g, cap, rfl⟩
  · omega
  · obtain ⟨e0, _, e2, e3⟩ := pendCells_at l j y hy
    refine ⟨g, cap, rfl, (h.lt g rfl).2, ?_, ?_, ?_⟩
    · rw [h.cellAt _ (by omega)]; exact e0
    · rw [h.cellAt _ (by omega)]; exact e2
    · rw [h.cellAt _ (by omega)]; exact e3
end Go.Proofs.YtjodkcjlipecdaaGreatDoor

namespace Go.Proofs.YtjodkcjlipecdaaGreatDoor
open Go.RowKit

/-- The law's partitions. -/
def fewParts (n : Int) : Nat := (1 + (n.tmod 4 + 4).tmod 4).toNat

theorem fewParts_in (n : Int) : 1 ≤ fewParts n ∧ fewParts n ≤ 4 := by
  unfold fewParts
  have h1 := Int.tmod_lt_of_pos (n.tmod 4 + 4) (show (0 : Int) < 4 by decide)
  have h2 : 0 ≤ n.tmod 4 + 4 := by have := Int.lt_tmod_of_pos n (show (0 : Int) < 4 by decide); omega
  have h3 := Int.tmod_nonneg 4 h2
  omega

theorem fewParts_wrap (n : Int) : wrap64 (1 + (wrap64 (n.tmod 4 + 4)).tmod 4) = (fewParts n : Int) := by
  unfold fewParts
  have h1 := Int.tmod_lt_of_pos (n.tmod 4 + 4) (show (0 : Int) < 4 by decide)
  have h0 := Int.tmod_lt_of_pos n (show (0 : Int) < 4 by decide)
  have h2 : 0 ≤ n.tmod 4 + 4 := by have := Int.lt_tmod_of_pos n (show (0 : Int) < 4 by decide); omega
  have h3 := Int.tmod_nonneg 4 h2
  rw [IntWalk.wrap64_in (n.tmod 4 + 4) (by omega), IntWalk.wrap64_in _ (by omega)]
  omega
end Go.Proofs.YtjodkcjlipecdaaGreatDoor
