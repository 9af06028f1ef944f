/-
  A partition with its entries: what is there behind a crash, whatever it keeps: plain. No conditions.
-/
import Derived.Test.YtgjkjkeeblbjlaaGreatDoorJNM
set_option maxRecDepth 100000
namespace Go.Proofs.YtgjkjkeeblbjlaaGreatDoor
open Go.RowKit

/-- A partition's notes, and what they were. -/
def paNotes2 : Notes (PPart × List Ent) where
  name := paName
  init := (paNotes.init, [])
  step e s := (paNotes.step e s.1).map fun s1 => (s1, s.2 ++ [e])

theorem replay2 : ∀ {l : List Ent} {s s1 : PPart} (a : List Ent), paNotes.replay l s = some s1 → paNotes2.replay l (s, a) = some (s1, a ++ l)
  | [], s, s1, a, h => by
    simp only [Notes.replay, Option.some.injEq] at h ⊢
    rw [h, List.append_nil]
  | e :: l, s, s1, a, h => by
    rw [Notes.replay] at h ⊢
    have e1 : paNotes2.step e (s, a) = (paNotes.step e s).map fun s1 => (s1, a ++ [e]) := rfl
    rw [e1]
    cases h1 : paNotes.step e s with
    | none => rw [h1] at h; cases h
    | some s2 =>
      rw [h1] at h
      have h2 := replay2 (a ++ [e]) h
      rw [List.append_assoc] at h2
      exact h2

theorem replay2_of : ∀ {l : List Ent} {s : PPart} {a : List Ent} {t : PPart × List Ent}, paNotes2.replay l (s, a) = some t → paNotes.replay l s = some t.1 ∧ t.2 = a ++ l
  | [], s, a, t, h => by
    simp only [Notes.replay, Option.some.injEq] at h ⊢
    subst h
    exact ⟨rfl, by simp⟩
  | e :: l, s, a, t, h => by
    rw [Notes.replay] at h ⊢
    have e1 : paNotes2.step e (s, a) = (paNotes.step e s).map fun s1 => (s1, a ++ [e]) := rfl
    rw [e1] at h
    cases h1 : paNotes.step e s with
    | none => rw [h1] at h; cases h
    | some s2 =>
      rw [h1] at h
      have h2 := replay2_of (s := s2) (a := a ++ [e]) h
      refine ⟨h2.1, ?_⟩
      rw [h2.2, List.append_assoc]
      rfl

theorem NGood.pair {N : Int} {s : PPart} {A : ALog} {D : PDisk} (h : NGood paNotes N s A D) : NGood paNotes2 N (s, A.all) A D :=
  ⟨h.inv, h.wf, h.name, h.e, h.first, h.off, replay2 [] h.rep, h.sure⟩
theorem NGood.unpair {N : Int} {t : PPart × List Ent} {A : ALog} {D : PDisk} (h : NGood paNotes2 N t A D) : NGood paNotes N t.1 A D ∧ t.2 = A.all := by
  obtain ⟨h1, h2⟩ := replay2_of (s := paNotes.init) (a := []) h.rep
  exact ⟨⟨h.inv, h.wf, h.name, h.e, h.first, h.off, h1, h.sure⟩, by rw [h2, List.nil_append]⟩

theorem noteTo_map {σ τ : Type} (f : σ → τ) (s s1 : σ) (L : PLog) (D : PDisk) (it : PItem) : noteTo (f s) (f s1) L D it = (f (noteTo s s1 L D it).1, (noteTo s s1 L D it).2) := by
  unfold noteTo
  dsimp only
  split
  · rfl
  · split <;> rfl

/-- One batch more, this one. -/
def QBat (b : PBat) (s t : PPart × List Ent) : Prop := ∃ base : Int, t.2 = s.2 ++ [⟨base, b.len, b.lay⟩]

/-- What a batch that is put comes to, wherever the power goes. -/
inductive LPut (s : PPart) (l : List Ent) (A : ALog) (b : PBat) : PaRes → Prop
  | ok (A' : ALog) (D' : PDisk) (good : NGood paNotes2 1000 (s.took b A.next, l ++ [⟨A.next, b.len, b.lay⟩]) A' D') (hb : b.ok) (hk : b.kind = 1 ∨ b.kind = 2) : LPut s l A b ⟨s.took b A.next, A'.toP, D', A.next, false, 0⟩
  | no (A' : ALog) (D' : PDisk) (n : Int) (y : Bool) (c : Int) (good : NGood paNotes2 1000 (s, l) A' D') (why : c ≠ 0 ∨ y = true) : LPut s l A b ⟨s, A'.toP, D', n, y, c⟩
  | dark (A' : ALog) (D' : PDisk) (dark : NDark paNotes2 1000 (QBat b) (s, l) A' D') (hb : b.ok) (hk : b.kind = 1 ∨ b.kind = 2) : LPut s l A b ⟨s, A'.toP, D', 0, false, 4⟩

theorem lput {s : PPart} {l : List Ent} {A : ALog} {D : PDisk} (h : NGood paNotes2 1000 (s, l) A D) (b : PBat) : LPut s l A b (s.put A.toP D b) := by
  unfold PPart.put
  rw [if_neg (fun h9 => h9 h.e)]
  dsimp only
  by_cases hk : (lookP s.prods b).2.2 ≠ 0 ∨ (lookP s.prods b).2.1 = true
  · rw [if_pos hk]
    exact .no A D _ _ _ h hk
  · rw [if_neg hk]
    have h1 : (lookP s.prods b).2.2 = 0 := by
      rcases Decidable.em ((lookP s.prods b).2.2 = 0) with h9 | h9
      · exact h9
      · exact absurd (.inl h9) hk
    obtain ⟨hok, hk2⟩ := lookP_ok h1
    have hk1 := hok.kind_in
    have hstep : paNotes2.step ⟨A.next, b.len, b.lay⟩ (s, l) = some (s.took b A.next, l ++ [⟨A.next, b.len, b.lay⟩]) := by
      show (paNotes.step ⟨A.next, b.len, b.lay⟩ s).map _ = _
      rw [paStep hok s]
      rfl
    have ho := h.entry (Q := QBat b) (it := ⟨b.len, b.lay⟩) hstep ⟨A.next, rfl⟩
    have hm := noteTo_map (Prod.fst : PPart × List Ent → PPart) (s, l) (s.took b A.next, l ++ [⟨A.next, b.len, b.lay⟩]) A.toP D ⟨b.len, b.lay⟩
    have hw : paWrite s A.toP D b = noteTo s (s.took b A.next) A.toP D ⟨b.len, b.lay⟩ := rfl
    rw [hw]
    dsimp only at hm
    rw [hm]
    generalize noteTo (s, l) (s.took b A.next, l ++ [⟨A.next, b.len, b.lay⟩]) A.toP D ⟨b.len, b.lay⟩ = r at ho
    cases ho with
    | ok A' D' good fuse all next n =>
      dsimp only
      rw [if_neg (by decide)]
      exact .ok A' D' good hok (by omega)
    | no A' D' c good hc fuse all =>
      dsimp only
      rw [if_pos hc]
      exact .no A' D' 0 false c good (.inl hc)
    | dark A' D' dark was =>
      dsimp only
      rw [if_pos (by decide)]
      exact .dark A' D' dark hok (by omega)

theorem NGood.fused8 {σ : Type} {P : Notes σ} {N : Int} {s : σ} {A : ALog} {D : PDisk} (h : NGood P N s A D) {z : Int} (h0 : 0 ≤ z) (h1 : z ≤ 1000000) : NGood P N s A { D with fuse := max z (-1) } := by
  refine ⟨h.inv.same rfl rfl rfl rfl, ⟨h.wf.sorted, h.wf.ok, h.wf.count, h.wf.room, h.wf.sum, h.wf.size, ?_, ?_⟩, h.name, h.e, h.first, h.off, h.rep, h.sure⟩
  · show -1 ≤ max z (-1)
    omega
  · show max z (-1) ≤ 9223372036854775807
    omega

/-- The records of some entries. -/
def toldL (l : List Ent) : List PGot := (l.filterMap dataE).flatMap fun p => recsAt p.1 p.2.l

theorem told_plain {N : Int} {s : PPart} {A : ALog} {D : PDisk} (hg : NGood paNotes N s A D) : s.toldAll false A = toldL A.all := by
  obtain ⟨hc, _⟩ := hg.chain
  have hb : ∀ x ∈ A.all, ∃ b, batOf x.text = some b := fun x hx => by
    obtain ⟨b, hb, _⟩ := pa_bat hg hx
    exact ⟨b, hb⟩
  unfold PPart.toldAll PPart.vis toldL
  rw [tw_filter hc, told_data s _ _ _ hb]
  congr 1
  refine List.filter_eq_self.2 fun r _ => ?_
  rfl

theorem toldL_app (a b : List Ent) : toldL (a ++ b) = toldL a ++ toldL b := by
  unfold toldL
  rw [List.filterMap_append, List.flatMap_append]
theorem toldL_one {base n : Int} {b : PBat} (h : b.ok) (hk : b.kind = 1 ∨ b.kind = 2) : toldL [⟨base, n, b.lay⟩] = recsAt base b.l := by
  unfold toldL
  rw [List.filterMap_cons, dataE_lay h, if_pos (by omega)]
  simp
theorem toldL_rows {l : List Ent} {rows : List PRow} (h : l.filterMap dataE = rows.map fun r => (r.base, r.b)) : toldL l = allP rows := by
  unfold toldL allP
  rw [h, List.flatMap_map]

/-- Behind a crash all rows are there, and no more than that one beside them. -/
theorem lasts_again {s : PPart} {l : List Ent} {A : ALog} {D : PDisk} {b : PBat} {rows : List PRow} (h : NGood paNotes2 1000 (s, l) A D ∨ (NDark paNotes2 1000 (QBat b) (s, l) A D ∧ b.ok ∧ (b.kind = 1 ∨ b.kind = 2))) (hr : l.filterMap dataE = rows.map fun r => (r.base, r.b)) (keep : List Int) :
    ∃ A3 D3 s3, (D.crash keep).openLog paName = (A3.toP, D3, 0) ∧ NGood paNotes 1000 s3 A3 D3 ∧ A3.all.length ≤ l.length + 1 ∧ (s3.toldAll false A3 = allP rows ∨ ∃ base, s3.toldAll false A3 = allP rows ++ recsAt base b.l) := by
  rcases h with h | ⟨h, hb, hk⟩
  · obtain ⟨A3, D3, s3, h1, h2, _, h4⟩ := NSome.again (Q := fun _ _ => False) (.inl h) keep
    rcases h4 with rfl | ⟨_, _, _, h9⟩
    · obtain ⟨g1, g2⟩ := h2.unpair
      refine ⟨A3, D3, s, h1, g1, ?_, .inl ?_⟩
      · rw [← g2]; dsimp only; omega
      · rw [told_plain g1, ← g2]
        exact toldL_rows hr
    · exact h9.elim
  · obtain ⟨A3, D3, s3, h1, h2, _, h4⟩ := NSome.again (.inr h) keep
    rcases h4 with rfl | ⟨_, e, h5, base, h6⟩
    · obtain ⟨g1, g2⟩ := h2.unpair
      refine ⟨A3, D3, s, h1, g1, ?_, .inl ?_⟩
      · rw [← g2]; dsimp only; omega
      · rw [told_plain g1, ← g2]
        exact toldL_rows hr
    · obtain ⟨g1, g2⟩ := h2.unpair
      refine ⟨A3, D3, s3.1, h1, g1, ?_, .inr ⟨base, ?_⟩⟩
      · rw [← g2, h6]; simp
      · rw [told_plain g1, ← g2, h6, toldL_app, toldL_one hb hk]
        dsimp only
        rw [toldL_rows hr]
end Go.Proofs.YtgjkjkeeblbjlaaGreatDoor
