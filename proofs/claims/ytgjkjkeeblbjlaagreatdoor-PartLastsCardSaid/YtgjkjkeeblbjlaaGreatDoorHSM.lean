/-
  A log of notes that has its disk for itself: its files stay its own; a crash leaves what is synced as it is. No conditions.
-/
import Derived.Test.YtgjkjkeeblbjlaaGreatDoorHEM
import Derived.Test.YtgjkjkeeblbjlaaGreatDoorGOM
set_option maxRecDepth 100000
namespace Go.Proofs.YtgjkjkeeblbjlaaGreatDoor
open Go.RowKit

def AllOwn (name : List UInt8) (D : PDisk) : Prop := ∀ f ∈ D.files, own name f = true

section
variable {σ : Type}

theorem NGood.note_own {P : Notes σ} {N : Int} {s s1 : σ} {A : ALog} {D : PDisk} {it : PItem} (h : NGood P N s A D) (hfu : D.fuse = -1) (ho : AllOwn P.name D) : AllOwn P.name (noteTo s s1 A.toP D it).2.2.1 := by
  have hwf : (A.toP.append D [it]).2.1.WF N := PLog.append_disk h.wf _
  have hao := h.inv.append_out h.wf h.e [it]
  have hnm := h.name
  unfold noteTo
  rw [toP_append] at hwf ⊢
  generalize A.append D [it] = r at hao hwf ⊢
  cases hao with
  | ok A' D' inv name all next chain first e sure own' off fuse ents =>
    dsimp only at hwf ⊢
    rw [if_neg (by decide), toP_sync]
    have hs := inv.sync_out hwf e
    have h1 : AllOwn P.name D' := by rw [← hnm] at ho ⊢; exact own' ho
    generalize A'.sync D' = q at hs ⊢
    cases hs with
    | ok A2 D2 inv2 name2 segs2 e2 sure2 room2 len2 own2 off2 fuse2 =>
      dsimp only
      rw [if_neg (by decide)]
      have h2 := own2
      rw [name, hnm] at h2
      exact h2 h1
    | dark D2 inv2 off2 was2 =>
      exfalso
      have h9 := fuse hfu
      rcases was2 with h8 | h8
      · rw [off] at h8; cases h8
      · omega
  | full A' D' inv name segs e sure room len own' off fuse =>
    dsimp only
    rw [if_pos (by decide)]
    dsimp only
    rw [← hnm] at ho ⊢
    exact own' ho
  | bad c why =>
    dsimp only
    split
    · exact ho
    · rename_i h8
      exfalso
      rcases why with ⟨_, h1⟩ | ⟨_, _, h1⟩ <;> omega
  | dark A' A2 D' inv name name2 segs sure sure' e chain max all off was first =>
    exfalso
    rcases was with h9 | h9
    · rw [h.off] at h9; cases h9
    · omega

/-- All is synced. -/
theorem NGood.calm {P : Notes σ} {N : Int} {s : σ} {A : ALog} {D : PDisk} (h : NGood P N s A D) (ho : AllOwn P.name D) : ∀ f ∈ D.files, f.loose = [] := by
  have hall : filesOf A.name D = D.files := by
    unfold filesOf
    refine List.filter_eq_self.2 ?_
    rw [h.name]; exact ho
  rw [← hall]
  rcases List.eq_nil_or_concat A.segs with h0 | ⟨a, s', h0⟩
  · have hfl : filesOf A.name D = [] := by have := h.inv.files; rw [h0] at this; simpa using this
    rw [hfl]
    intro f hf
    cases hf
  · rw [List.concat_eq_append] at h0
    have hsy := h.inv.sync
    obtain ⟨fs, f, h1, h2, ⟨p, q, h3, h4, h5, h6⟩, h7, h8⟩ := h.inv.last h0
    have hq : f.loose = [] := by
      have hc : Chain s'.base s'.ents := h.inv.chains (s := s') (by rw [h0]; simp)
      have hnx : A.next = endOf s'.base s'.ents := by rw [ALog.next_eq, h0, sEnd_snoc]; rfl
      have hsn := h.sure
      have hq0 : q = [] := by
        rw [h3] at hc hnx
        rcases List.eq_nil_or_concat q with hq | ⟨q', y, hq⟩
        · exact hq
        · exfalso
          rw [hq, List.concat_eq_append, ← List.append_assoc] at hc hnx
          have h11 := (endOf_prefix (Chain.app.1 hc).1).1
          obtain ⟨c1, c2, c3, c4⟩ := Chain.app.1 hc
          have hy : 1 ≤ y.n := c3.2.2.1
          have hb : y.base = endOf s'.base (p ++ q') := c2
          have he2 : endOf s'.base (p ++ q' ++ [y]) = y.base + y.n := by unfold endOf; simp
          rw [he2] at hnx
          omega
      rw [h5, hq0]; rfl
    rw [h1] at hsy ⊢
    rw [List.dropLast_concat] at hsy
    intro g hg
    rcases List.mem_append.1 hg with hg | hg
    · exact hsy g hg
    · obtain rfl : g = f := by simpa using hg
      exact hq

theorem crashF_calm (keep : List Int) : ∀ (l : List PFile) (i : Nat), (∀ f ∈ l, f.loose = []) → crashF keep i l = l
  | [], _, _ => rfl
  | f :: l, i, h => by
    have h1 := h f (by simp)
    rw [crashF, crashF_calm keep l (i + 1) (fun g hg => h g (by simp [hg]))]
    obtain ⟨a, b, c⟩ := f
    dsimp only at h1
    subst h1
    simp

theorem crash_calm {D : PDisk} (h : ∀ f ∈ D.files, f.loose = []) (ho : D.off = false) (hf : D.fuse = -1) (keep : List Int) : D.crash keep = D := by
  unfold PDisk.crash
  rw [crashF_calm keep _ _ h]
  obtain ⟨a, b, c, d⟩ := D
  dsimp only at ho hf ⊢
  subst ho hf
  rw [PDisk.mk.injEq]
  refine ⟨rfl, by omega, rfl, rfl⟩

/-- A crash, and it is opened: all is as it was. -/
theorem NGood.calmly {P : Notes σ} {N : Int} {s : σ} {A : ALog} {D : PDisk} (h : NGood P N s A D) (ho : AllOwn P.name D) (hf : D.fuse = -1) (keep : List Int) : D.crash keep = D ∧ D.openLog P.name = (A.toP, D, 0) := by
  refine ⟨crash_calm (h.calm ho) h.off hf keep, ?_⟩
  rw [← h.name]
  exact h.inv.still h.wf h.e h.sure h.off hf
end
end Go.Proofs.YtgjkjkeeblbjlaaGreatDoor
