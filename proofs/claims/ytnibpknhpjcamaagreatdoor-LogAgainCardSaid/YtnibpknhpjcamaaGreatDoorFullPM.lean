/-
  What an append to a log that nothing has befallen comes to. No conditions.
-/
import Derived.Test.YtnibpknhpjcamaaGreatDoorGNM
set_option maxRecDepth 100000
namespace Go.Proofs.YtnibpknhpjcamaaGreatDoor
open Go.RowKit

/-- A log that nothing has befallen, its numbers small. -/
structure Fine (A : ALog) (D : PDisk) (k : Nat) (N : Int) : Prop where
  good : Good A D k
  bd : A.toP.Bd k
  disk : D.WF N
  len : A.all.length ≤ 8 * k

theorem Fine.up {A : ALog} {D : PDisk} {k j : Nat} {N : Int} (h : Fine A D k N) (hk : k ≤ j) : Fine A D j N :=
  ⟨⟨h.good.inv, h.good.e, h.good.off, h.good.fuse, h.good.own, h.good.ents, h.good.first, by have := h.good.next; omega⟩, h.bd.up hk, h.disk, by have := h.len; omega⟩

theorem Fine.wf {A : ALog} {D : PDisk} {k : Nat} {N : Int} (h : Fine A D k N) (hk : k ≤ 1000) : A.toP.WF := h.bd.wf hk

theorem MadeIs.fine {r : PLog × PDisk × List Ent} {A : ALog} {N : Int} (h : MadeIs r A N) : Fine A r.2.1 50 N := ⟨h.good, h.bd, h.disk, by have := h.len; omega⟩

theorem Fine.append {A : ALog} {D : PDisk} {k : Nat} {N : Int} (h : Fine A D k N) {its : List PItem} (hl : its.length ≤ 8) :
    Fine (A.append D its).1 (A.append D its).2.1 (k + 1) N ∧ (A.append D its).1.name = A.name := by
  obtain ⟨g1, g2, g3⟩ := h.good.append h.disk hl
  have hb := h.bd.append D its hl
  have hd := PLog.append_disk (L := A.toP) h.disk its
  rw [toP_append] at hb hd
  refine ⟨⟨g1, hb, hd, ?_⟩, g2⟩
  have := h.len
  rw [g3]
  split
  · rw [List.length_append, mkEnts_len]; omega
  · omega

theorem Fine.sync {A : ALog} {D : PDisk} {k : Nat} {N : Int} (h : Fine A D k N) : Fine (A.sync D).1 (A.sync D).2.1 k N := by
  obtain ⟨g1, g2, g3, _⟩ := h.good.sync h.disk
  have hb := h.bd.sync D
  have hd := PLog.sync_disk (L := A.toP) h.disk
  rw [toP_sync] at hb hd
  exact ⟨g1, hb, hd, by rw [g3]; exact h.len⟩

/-- One entry of one record: it is put, or there is no room and nothing turns. -/
theorem Fine.one {A : ALog} {D : PDisk} {k : Nat} {N : Int} (h : Fine A D k N) (hk : k ≤ 1000) (t : List UInt8) (ht : t.length ≤ 1500) :
    ((A.append D [⟨1, t⟩]).2.2.2 = 0 ∧ (A.append D [⟨1, t⟩]).2.2.1 = A.next ∧ (A.append D [⟨1, t⟩]).1.all = A.all ++ [⟨A.next, 1, t⟩] ∧ (A.append D [⟨1, t⟩]).1.next = A.next + 1) ∨
    ((A.append D [⟨1, t⟩]).2.2.2 = 5 ∧ (A.append D [⟨1, t⟩]).2.2.1 = 0 ∧ (A.append D [⟨1, t⟩]).1.all = A.all ∧ (A.append D [⟨1, t⟩]).1.e = 0 ∧ (A.append D [⟨1, t⟩]).2.1.room = D.room ∧ (A.append D [⟨1, t⟩]).2.1.files.length = D.files.length) := by
  have ho := h.good.inv.append_out h.disk h.good.e [⟨1, t⟩]
  have hn := h.good.next
  have hn0 : 0 ≤ A.next := by have h1 := h.good.inv.sure_le; have h2 := h.good.inv.first; omega
  generalize A.append D [⟨1, t⟩] = r at ho ⊢
  cases ho with
  | ok A' D' inv name all next chain first e sure own' off fuse ents => exact .inl ⟨rfl, rfl, all, next⟩
  | full A' D' inv name segs e sure room len own' off fuse => exact .inr ⟨rfl, rfl, by dsimp only; unfold ALog.all; rw [segs], e, room, len⟩
  | bad c why =>
    exfalso
    rcases why with ⟨h1, _⟩ | ⟨_, h1, h2⟩
    · cases h1
    · have hok : (Ent.mk A.next 1 t).ok := ⟨hn0, by show A.next ≤ _; omega, (by decide : (1 : Int) ≤ 1), (by decide : (1 : Int) ≤ 64), by show t.length ≤ _; omega⟩
      have h3 : layAll A.next [⟨1, t⟩] [] = (0, [⟨A.next, 1, t⟩], A.next + 1) := by
        rw [layAll, if_pos hok, if_neg (by dsimp only; omega), layAll]; rfl
      rw [h3] at h1
      dsimp only at h1
      omega
  | dark A' A2 D' inv name name2 segs sure sure' e chain max all off was =>
    exfalso
    have h1 := h.good.off
    have h2 := h.good.fuse
    rcases was with h3 | h3
    · rw [h1] at h3; cases h3
    · omega
end Go.Proofs.YtnibpknhpjcamaaGreatDoor
