/-
  A disk whose power stays: how much room an append takes. No conditions.
  A log of notes, whatever they say: what stays true, whatever is noted, behind a crash, and on a disk with room: plain. No conditions.
  A log of notes on a disk with room: each short note is written. No conditions.
-/
import Derived.Test.YtgjkjkeeblbjlaaGreatDoorGMM
import Derived.Test.YtgjkjkeeblbjlaaGreatDoorGEM
set_option maxRecDepth 100000
namespace Go.Proofs.YtgjkjkeeblbjlaaGreatDoor
open Go.RowKit

theorem putF_len_le (l : List PFile) (f : PFile) : (putF l f).length ≤ l.length + 1 := by
  induction l with
  | nil => simp [putF]
  | cons g l ih =>
    rw [putF]
    split
    · simp
    · split
      · simp only [List.length_cons]; omega
      · simp

theorem burn_fuse {D : PDisk} (h : D.fuse = -1) : D.burn.1 = D := by
  unfold PDisk.burn
  rw [if_neg (by omega), if_neg (by omega)]

theorem dsame (D : PDisk) : D.room ≤ D.room + 4 ∧ D.files.length ≤ D.files.length + 1 ∧ D.files.length ≤ D.files.length + 2 := ⟨by omega, by omega, by omega⟩
theorem no5 {c : Int} (h : c = 0 ∨ c = 1 ∨ c = 3 ∨ c = 4) : c ≠ 5 := by omega

theorem PDisk.append_room {D : PDisk} {nm t : List UInt8} (hf : D.fuse = -1) (ht : t.length ≤ 130) :
    (D.append nm t).1.fuse = -1 ∧ D.room ≤ (D.append nm t).1.room + 4 ∧ (D.append nm t).1.files.length ≤ D.files.length + 1 ∧ ((D.append nm t).2 = 5 → D.room < 4 ∨ 256 ≤ D.files.length) := by
  unfold PDisk.append
  split
  · rename_i hr
    refine ⟨hf, (dsame D).1, (dsame D).2.1, fun h5 => ?_⟩
    dsimp only at h5
    unfold PDisk.ready at h5
    split at h5
    · split at h5 <;> omega
    · omega
  · have hb : ∀ f : PFile, blk (↑f.size + ↑t.length) - blk ↑f.size ≤ 4 := by
      intro f
      unfold blk
      split <;> split <;> omega
    have hb0 : blk (t.length : Int) ≤ 4 := by unfold blk; split <;> omega
    dsimp only
    cases hl : D.look nm with
    | none =>
      simp only [true_and]
      split
      · rename_i h9
        refine ⟨hf, (dsame D).1, (dsame D).2.1, fun _ => ?_⟩
        rcases h9 with h9 | h9
        · exact .inl (by omega)
        · exact .inr h9
      · have := putF_len_le D.files { name := nm, sure := [], loose := [] ++ t }
        rw [burn_fuse (by exact hf)]
        refine ⟨hf, ?_, this, fun h5 => ?_⟩
        · show D.room ≤ D.room - blk ↑t.length + 4
          omega
        · exfalso
          split at h5
          · exact no5 (.inl rfl) h5
          · exact no5 (.inr (.inr (.inr rfl))) h5
    | some f =>
      have hbf := hb f
      simp only [reduceCtorEq, false_and, or_false]
      split
      · rename_i h9
        exact ⟨hf, (dsame D).1, (dsame D).2.1, fun _ => .inl (by omega)⟩
      · have := putF_len_le D.files { f with loose := f.loose ++ t }
        rw [burn_fuse (by exact hf)]
        refine ⟨hf, ?_, this, fun h5 => ?_⟩
        · show D.room ≤ D.room - _ + 4
          omega
        · exfalso
          split at h5
          · exact no5 (.inl rfl) h5
          · exact no5 (.inr (.inr (.inr rfl))) h5

theorem PDisk.sync_room {D : PDisk} {nm : List UInt8} (hf : D.fuse = -1) :
    (D.sync nm).1.fuse = -1 ∧ D.room ≤ (D.sync nm).1.room ∧ (D.sync nm).1.files.length ≤ D.files.length + 1 := by
  unfold PDisk.sync PDisk.work
  split
  · exact ⟨hf, Int.le_refl _, (dsame _).2.1⟩
  · split
    · exact ⟨hf, Int.le_refl _, (dsame _).2.1⟩
    · rename_i f hl
      rw [burn_fuse hf]
      split
      · exact ⟨hf, Int.le_refl _, putF_len_le _ _⟩
      · exact ⟨hf, Int.le_refl _, (dsame _).2.1⟩

theorem PDisk.sync_code (D : PDisk) (nm : List UInt8) : (D.sync nm).2 ≠ 5 := by
  unfold PDisk.sync PDisk.work
  split
  · unfold PDisk.ready
    split
    · split
      · exact no5 (.inr (.inr (.inr rfl)))
      · exact no5 (.inl rfl)
    · exact no5 (.inr (.inl rfl))
  · split
    · exact no5 (.inr (.inr (.inl rfl)))
    · split
      · exact no5 (.inl rfl)
      · exact no5 (.inr (.inr (.inr rfl)))

theorem ALog.sync_room {A : ALog} {D : PDisk} (hf : D.fuse = -1) :
    (A.sync D).2.1.fuse = -1 ∧ D.room ≤ (A.sync D).2.1.room ∧ (A.sync D).2.1.files.length ≤ D.files.length + 1 := by
  unfold ALog.sync
  split
  · exact ⟨hf, Int.le_refl _, (dsame _).2.1⟩
  · split
    · exact ⟨hf, Int.le_refl _, (dsame _).2.1⟩
    · exact PDisk.sync_room hf

theorem ALog.sync_code {A : ALog} {D : PDisk} (he : A.e = 0) : (A.sync D).2.2 ≠ 5 := by
  unfold ALog.sync
  split
  · rw [he]; exact no5 (.inl rfl)
  · rw [if_neg (by rw [he]; decide)]
    exact PDisk.sync_code D _

theorem ALog.put_room {A : ALog} {D : PDisk} {s : ASeg} {before : List ASeg} {ents : List Ent} (hf : D.fuse = -1) (ht : (layText ents).length ≤ 130) :
    (A.put D s before ents).2.1.fuse = -1 ∧ D.room ≤ (A.put D s before ents).2.1.room + 4 ∧ (A.put D s before ents).2.1.files.length ≤ D.files.length + 1 ∧ ((A.put D s before ents).2.2.2 = 5 → D.room < 4 ∨ 256 ≤ D.files.length) := by
  obtain ⟨h1, h2, h3, h4⟩ := PDisk.append_room (nm := segName A.name s.base) hf ht
  unfold ALog.put
  dsimp only
  split
  · rename_i h5
    exact ⟨h1, h2, h3, fun _ => h4 h5⟩
  · split
    · rename_i h5 _
      exact ⟨h1, h2, h3, fun h9 => absurd h9 h5⟩
    · exact ⟨h1, h2, h3, fun h9 => absurd h9 (show ¬ ((0 : Int) = 5) by decide)⟩

theorem ALog.appendE_room {A : ALog} {D : PDisk} {ents : List Ent} (he : A.e = 0) (hf : D.fuse = -1) (ht : (layText ents).length ≤ 130) :
    (A.appendE D ents).2.1.fuse = -1 ∧ D.room ≤ (A.appendE D ents).2.1.room + 4 ∧ (A.appendE D ents).2.1.files.length ≤ D.files.length + 2 ∧ ((A.appendE D ents).2.2.2 = 5 → D.room < 4 ∨ 255 ≤ D.files.length) := by
  unfold ALog.appendE
  split
  · obtain ⟨h1, h2, h3, h4⟩ := ALog.put_room (A := A) (D := D) (s := ‹_›) (before := A.segs.dropLast) hf ht
    exact ⟨h1, h2, by omega, fun h => by have := h4 h; omega⟩
  · split
    · obtain ⟨h1, h2, h3, h4⟩ := ALog.put_room (A := A) (D := D) (s := ⟨A.next, []⟩) (before := []) hf ht
      exact ⟨h1, h2, by omega, fun h => by have := h4 h; omega⟩
    · obtain ⟨g1, g2, g3⟩ := ALog.sync_room (A := A) hf
      have g4 := ALog.sync_code (A := A) (D := D) he
      dsimp only
      split
      · exact ⟨g1, by show D.room ≤ (A.sync D).2.1.room + 4; omega, by show (A.sync D).2.1.files.length ≤ _; omega, fun h => absurd h g4⟩
      · obtain ⟨h1, h2, h3, h4⟩ := ALog.put_room (A := (A.sync D).1) (D := (A.sync D).2.1) (s := ⟨A.next, []⟩) (before := A.segs) g1 ht
        refine ⟨h1, by omega, by omega, fun h => ?_⟩
        have := h4 h
        omega
end Go.Proofs.YtgjkjkeeblbjlaaGreatDoor

namespace Go.Proofs.YtgjkjkeeblbjlaaGreatDoor
open Go.RowKit

/-- What notes are: the log's name, what there is ahead of them, what a note makes of it. -/
structure Notes (σ : Type) where
  name : List UInt8
  init : σ
  step : Ent → σ → Option σ

variable {σ : Type}

def Notes.replay (P : Notes σ) : List Ent → σ → Option σ
  | [], s => some s
  | e :: r, s => (P.step e s).bind (P.replay r)

theorem Notes.replay_app (P : Notes σ) : ∀ (l m : List Ent) (s : σ), P.replay (l ++ m) s = (P.replay l s).bind (P.replay m)
  | [], _, _ => rfl
  | e :: l, m, s => by
    rw [List.cons_append, Notes.replay, Notes.replay]
    cases P.step e s with
    | none => rfl
    | some s1 => exact Notes.replay_app P l m s1

theorem Notes.replay_one (P : Notes σ) (e : Ent) (s : σ) : P.replay [e] s = P.step e s := by
  rw [Notes.replay]
  cases P.step e s <;> rfl

theorem Notes.replay_snoc (P : Notes σ) {l : List Ent} {e : Ent} {s0 s s1 : σ} (h : P.replay l s0 = some s) (h1 : P.step e s = some s1) : P.replay (l ++ [e]) s0 = some s1 := by
  rw [Notes.replay_app, h]
  exact (P.replay_one e s).trans h1

/-- What stays true of what there is. -/
theorem Notes.replay_keeps (P : Notes σ) {R : σ → Prop} (hR : ∀ e s s1, R s → P.step e s = some s1 → R s1) : ∀ {l : List Ent} {s s1 : σ}, R s → P.replay l s = some s1 → R s1
  | [], s, s1, h, he => by
    simp only [Notes.replay, Option.some.injEq] at he
    subst he; exact h
  | e :: l, s, s1, h, he => by
    rw [Notes.replay] at he
    cases h1 : P.step e s with
    | none => rw [h1] at he; cases he
    | some s2 =>
      rw [h1] at he
      exact Notes.replay_keeps P hR (hR e s s2 h h1) he

/-- What there is as its log has it. -/
structure NGood (P : Notes σ) (N : Int) (s : σ) (A : ALog) (D : PDisk) : Prop where
  inv : Inv A D
  wf : D.WF N
  name : A.name = P.name
  e : A.e = 0
  first : A.first = 0
  off : D.off = false
  rep : P.replay A.all P.init = some s
  sure : A.sure = A.next

/-- What may lie behind what was told. -/
def NTail (P : Notes σ) (Q : σ → σ → Prop) (s : σ) (Y : List Ent) : Prop := Y = [] ∨ ∃ e s1, Y = [e] ∧ P.step e s = some s1 ∧ Q s s1

/-- Its power has gone. -/
structure NDark (P : Notes σ) (N : Int) (Q : σ → σ → Prop) (s : σ) (A : ALog) (D : PDisk) : Prop where
  e : A.e = 4
  off : D.off = true
  wf : D.WF N
  left : ∃ A2 B Y, Inv A2 D ∧ A2.name = P.name ∧ A2.first = 0 ∧ A2.all = B ++ Y ∧ Chain 0 B ∧ endOf 0 B ≤ A2.sure ∧ P.replay B P.init = some s ∧ NTail P Q s Y

theorem NDark.mono {P : Notes σ} {N : Int} {Q Q' : σ → σ → Prop} {s : σ} {A : ALog} {D : PDisk} (h : NDark P N Q s A D) (hQ : ∀ s1, Q s s1 → Q' s s1) : NDark P N Q' s A D := by
  obtain ⟨A2, B, Y, h1, h2, h3, h4, h5, h6, h7, h8⟩ := h.left
  refine ⟨h.e, h.off, h.wf, A2, B, Y, h1, h2, h3, h4, h5, h6, h7, ?_⟩
  rcases h8 with h8 | ⟨e, s1, h8, h9, h10⟩
  · exact .inl h8
  · exact .inr ⟨e, s1, h8, h9, hQ _ h10⟩

theorem NGood.next0 {P : Notes σ} {N : Int} {s : σ} {A : ALog} {D : PDisk} (h : NGood P N s A D) : 0 ≤ A.next := by
  have h1 := h.inv.sure_le; have h2 := h.inv.first; omega

theorem NGood.chain {P : Notes σ} {N : Int} {s : σ} {A : ALog} {D : PDisk} (h : NGood P N s A D) : Chain 0 A.all ∧ endOf 0 A.all = A.next := by
  have h1 := h.inv.all_chain
  rw [h.first] at h1
  exact h1

/-- An entry is written, and had last. -/
def noteTo (s s1 : σ) (L : PLog) (D : PDisk) (it : PItem) : σ × PLog × PDisk × Int :=
  let r := L.append D [it]
  if r.2.2.2 ≠ 0 then (s, r.1, r.2.1, r.2.2.2) else
  let q := r.1.sync r.2.1
  if q.2.2 ≠ 0 then (s, q.1, q.2.1, q.2.2) else (s1, q.1, q.2.1, 0)

/-- What a note comes to. -/
inductive NOut (P : Notes σ) (N : Int) (Q : σ → σ → Prop) (s : σ) (A : ALog) (D : PDisk) (s1 : σ) : σ × PLog × PDisk × Int → Prop
  | ok (A' : ALog) (D' : PDisk) (good : NGood P N s1 A' D') (fuse : D.fuse = -1 → D'.fuse = -1) (next : A.next < A'.next) : NOut P N Q s A D s1 (s1, A'.toP, D', 0)
  | no (A' : ALog) (D' : PDisk) (c : Int) (good : NGood P N s A' D') (hc : c ≠ 0) (fuse : D.fuse = -1 → D'.fuse = -1) : NOut P N Q s A D s1 (s, A'.toP, D', c)
  | dark (A' : ALog) (D' : PDisk) (dark : NDark P N Q s A' D') (was : D.fuse ≠ -1) : NOut P N Q s A D s1 (s, A'.toP, D', 4)

theorem mkEnts_one (b : Int) (it : PItem) : mkEnts b [it] = [⟨b, it.n, it.text⟩] := rfl

theorem NGood.note {P : Notes σ} {N : Int} {Q : σ → σ → Prop} {s s1 : σ} {A : ALog} {D : PDisk} {it : PItem} (h : NGood P N s A D) (hf : P.step ⟨A.next, it.n, it.text⟩ s = some s1) (hq : Q s s1) : NOut P N Q s A D s1 (noteTo s s1 A.toP D it) := by
  obtain ⟨hch, hend⟩ := h.chain
  have hrep2 : P.replay (A.all ++ [⟨A.next, it.n, it.text⟩]) P.init = some s1 := P.replay_snoc h.rep hf
  have hwf : (A.toP.append D [it]).2.1.WF N := PLog.append_disk h.wf _
  have hwf2 : ∀ {A1 : ALog} {D1 : PDisk}, D1.WF N → (A1.sync D1).2.1.WF N := by
    intro A1 D1 h9
    have := PLog.sync_disk (L := A1.toP) h9
    rw [toP_sync] at this
    exact this
  have ho := h.inv.append_out h.wf h.e [it]
  unfold noteTo
  rw [toP_append] at hwf ⊢
  generalize A.append D [it] = r at ho hwf ⊢
  cases ho with
  | ok A' D' inv name all next chain first e sure own' off fuse ents =>
    dsimp only at hwf ⊢
    rw [if_neg (by decide), toP_sync]
    have hs := inv.sync_out hwf e
    have hw2 := hwf2 (A1 := A') hwf
    rw [mkEnts_one] at all next chain
    have hlt := chain.lt (by simp)
    generalize A'.sync D' = q at hs hw2 ⊢
    cases hs with
    | ok A2 D2 inv2 name2 segs2 e2 sure2 room2 len2 own2 off2 fuse2 =>
      dsimp only
      rw [if_neg (by decide)]
      have hf2 : A2.first = A.first := by unfold ALog.first at first ⊢; rw [segs2]; exact first
      have hn2 : A2.next = A'.next := by unfold ALog.next; rw [segs2]
      have ha2 : A2.all = A'.all := by unfold ALog.all; rw [segs2]
      exact .ok A2 D2 ⟨inv2, hw2, by rw [name2, name]; exact h.name, e2, by rw [hf2]; exact h.first, off2 off, by rw [ha2, all]; exact hrep2, by rw [sure2, hn2]⟩ (fun h9 => fuse2 (fuse h9)) (by rw [hn2, next]; exact hlt)
    | dark D2 inv2 off2 was2 =>
      dsimp only
      rw [if_pos (by decide)]
      refine .dark { A' with e := 4 } D2 ⟨rfl, off2, hw2, { A' with e := 4 }, A.all, [⟨A.next, it.n, it.text⟩], inv2, by show A'.name = _; rw [name]; exact h.name, first.trans h.first, all, hch, ?_, h.rep, .inr ⟨_, s1, rfl, hf, hq⟩⟩ ?_
      · show endOf 0 A.all ≤ A'.sure
        rw [hend, ← h.sure]; exact sure
      · intro h9
        have h10 := fuse h9
        rcases was2 with h11 | h11
        · rw [off] at h11; cases h11
        · omega
  | full A' D' inv name segs e sure room len own' off fuse =>
    dsimp only at hwf ⊢
    rw [if_pos (by decide)]
    have hf2 : A'.first = A.first := by unfold ALog.first; rw [segs]
    have hn2 : A'.next = A.next := by unfold ALog.next; rw [segs]
    have ha2 : A'.all = A.all := by unfold ALog.all; rw [segs]
    refine .no A' D' 5 ⟨inv, hwf, by rw [name]; exact h.name, e, by rw [hf2]; exact h.first, off, by rw [ha2]; exact h.rep, ?_⟩ (by decide) fuse
    have h1 := inv.sure_le.2
    have h2 := h.sure
    omega
  | bad c why =>
    dsimp only
    have hc : c ≠ 0 := by
      rcases why with ⟨_, h1⟩ | ⟨_, _, h1⟩ <;> omega
    rw [if_pos hc]
    exact .no A D c h hc id
  | dark A' A2 D' inv name name2 segs sure sure' e chain max all off was first =>
    dsimp only at hwf ⊢
    rw [if_pos (by decide)]
    rw [mkEnts_one] at all
    have hs2 : endOf 0 A.all ≤ A2.sure := by rw [hend, ← h.sure, sure]; exact sure'
    refine .dark A' D' ⟨e, off, hwf, A2, A.all, ?_⟩ ?_
    · rcases all with hall | hall
      · exact ⟨[], inv, by rw [name2]; exact h.name, first.trans h.first, by rw [hall, List.append_nil], hch, hs2, h.rep, .inl rfl⟩
      · exact ⟨[⟨A.next, it.n, it.text⟩], inv, by rw [name2]; exact h.name, first.trans h.first, hall, hch, hs2, h.rep, .inr ⟨_, s1, rfl, hf, hq⟩⟩
    · intro h9
      rcases was with h10 | h10
      · rw [h.off] at h10; cases h10
      · omega

/-- Of two lists with the same beginning, the longer one ends later. -/
theorem pre_end {B C Y r : List Ent} {b : Int} (hB : Chain b B) (he : B ++ Y = C ++ r) (hle : endOf b B ≤ endOf b C) : ∃ Z, C = B ++ Z ∧ Y = Z ++ r := by
  rcases List.append_eq_append_iff.1 he with ⟨Z, h1, h2⟩ | ⟨Z, h1, h2⟩
  · exact ⟨Z, h1, h2⟩
  · subst h1
    obtain ⟨_, h4⟩ := endOf_prefix hB
    have h5 := (endOf_prefix hB).1
    have h6 := h4 (by omega)
    subst h6
    exact ⟨[], by simp, by simpa using h2.symm⟩

/-- With its power, or without. -/
def NSome (P : Notes σ) (N : Int) (Q : σ → σ → Prop) (s : σ) (A : ALog) (D : PDisk) : Prop := NGood P N s A D ∨ NDark P N Q s A D

theorem NSome.wf {P : Notes σ} {N : Int} {Q : σ → σ → Prop} {s : σ} {A : ALog} {D : PDisk} (h : NSome P N Q s A D) : D.WF N := by
  rcases h with h | h
  · exact h.wf
  · exact h.wf
theorem NSome.on {P : Notes σ} {N : Int} {Q : σ → σ → Prop} {s : σ} {A : ALog} {D : PDisk} (h : NSome P N Q s A D) (ho : D.off = false) : NGood P N s A D := by
  rcases h with h | h
  · exact h
  · have := h.off; rw [ho] at this; cases this

theorem reopenedN {P : Notes σ} {N : Int} {Q : σ → σ → Prop} {s : σ} {A2 : ALog} {D : PDisk} {B Y : List Ent} (hw : D.WF N) (inv : Inv A2 D) (name : A2.name = P.name) (first : A2.first = 0) (all : A2.all = B ++ Y) (hB : Chain 0 B) (hs : endOf 0 B ≤ A2.sure) (rep : P.replay B P.init = some s) (hY : NTail P Q s Y) (keep : List Int) :
    ∃ A3 D3 s3, (D.crash keep).openLog P.name = (A3.toP, D3, 0) ∧ NGood P N s3 A3 D3 ∧ D3.fuse = -1 ∧ (s3 = s ∨ (Y ≠ [] ∧ ∃ e, P.step e s = some s3 ∧ Q s s3)) := by
  obtain ⟨A3, D3, r, h1, h2, h3, h4, h5, h6, h7, h8, h9, h10, h11⟩ := inv.reopen1 hw keep
  rw [name] at h1
  obtain ⟨c3, n3⟩ := h7.all_chain
  have hf0 : A3.first = 0 := h11.trans first
  obtain ⟨Z, hZ, hYr⟩ : ∃ Z, A3.all = B ++ Z ∧ Y = Z ++ r := by
    refine pre_end hB (all.symm.trans h2) ?_
    rw [hf0] at n3
    rw [n3]; omega
  have good : ∀ s3, P.replay A3.all P.init = some s3 → NGood P N s3 A3 D3 := fun s3 hr => ⟨h7, h8, by rw [h6]; exact name, h5, hf0, h9, hr, h4⟩
  rcases hY with rfl | ⟨e, s1, rfl, hf, hq⟩
  · have hz : Z = [] := by
      cases Z with
      | nil => rfl
      | cons a l => simp at hYr
    subst hz
    rw [List.append_nil] at hZ
    exact ⟨A3, D3, s, h1, good s (by rw [hZ]; exact rep), h10, .inl rfl⟩
  · cases Z with
    | nil =>
      rw [List.append_nil] at hZ
      exact ⟨A3, D3, s, h1, good s (by rw [hZ]; exact rep), h10, .inl rfl⟩
    | cons a l =>
      simp only [List.cons_append, List.cons.injEq] at hYr
      obtain ⟨rfl, h12⟩ := hYr
      have hl : l = [] := by
        cases l with
        | nil => rfl
        | cons a l => simp at h12
      subst hl
      exact ⟨A3, D3, s1, h1, good s1 (by rw [hZ]; exact P.replay_snoc rep hf), h10, .inr ⟨by simp, e, hf, hq⟩⟩

/-- What is there behind a crash. -/
theorem NSome.again {P : Notes σ} {N : Int} {Q : σ → σ → Prop} {s : σ} {A : ALog} {D : PDisk} (h : NSome P N Q s A D) (keep : List Int) :
    ∃ A3 D3 s3, (D.crash keep).openLog P.name = (A3.toP, D3, 0) ∧ NGood P N s3 A3 D3 ∧ D3.fuse = -1 ∧ (s3 = s ∨ (D.off = true ∧ ∃ e, P.step e s = some s3 ∧ Q s s3)) := by
  rcases h with h | h
  · obtain ⟨hch, hend⟩ := h.chain
    obtain ⟨A3, D3, s3, h1, h2, h3, h4⟩ := reopenedN (Q := Q) h.wf h.inv h.name h.first (B := A.all) (Y := []) (by simp) hch (by rw [hend, h.sure]; omega) h.rep (.inl rfl) keep
    refine ⟨A3, D3, s3, h1, h2, h3, ?_⟩
    rcases h4 with h4 | ⟨h4, _⟩
    · exact .inl h4
    · exact absurd rfl h4
  · obtain ⟨A2, B, Y, g1, g2, g3, g4, g5, g6, g7, g8⟩ := h.left
    obtain ⟨A3, D3, s3, h1, h2, h3, h4⟩ := reopenedN h.wf g1 g2 g3 g4 g5 g6 g7 g8 keep
    refine ⟨A3, D3, s3, h1, h2, h3, ?_⟩
    rcases h4 with h4 | ⟨_, n, h5, h6⟩
    · exact .inl h4
    · exact .inr ⟨h.off, n, h5, h6⟩

theorem NGood.fused {P : Notes σ} {N : Int} {s : σ} {A : ALog} {D : PDisk} (h : NGood P N s A D) (z : Int) : NGood P N s A { D with fuse := max (z.tmod 9) (-1) } := by
  have h1 := Int.tmod_lt_of_pos z (show (0 : Int) < 9 by decide)
  refine ⟨h.inv.same rfl rfl rfl rfl, ⟨h.wf.sorted, h.wf.ok, h.wf.count, h.wf.room, h.wf.sum, h.wf.size, ?_, ?_⟩, h.name, h.e, h.first, h.off, h.rep, h.sure⟩
  · show -1 ≤ max (z.tmod 9) (-1)
    omega
  · show max (z.tmod 9) (-1) ≤ 9223372036854775807
    omega
end Go.Proofs.YtgjkjkeeblbjlaaGreatDoor

namespace Go.Proofs.YtgjkjkeeblbjlaaGreatDoor
open Go.RowKit

variable {σ : Type}

/-- A disk that has room behind so many notes. -/
def Roomed (k : Nat) (A : ALog) (D : PDisk) : Prop := D.fuse = -1 ∧ 1000 ≤ D.room + 4 * k ∧ D.files.length ≤ 3 * k ∧ A.next ≤ k

theorem Roomed.more {k : Nat} {A : ALog} {D : PDisk} (h : Roomed k A D) : Roomed (k + 1) A D := by
  obtain ⟨h1, h2, h3, h4⟩ := h
  exact ⟨h1, by omega, by omega, by omega⟩

theorem putL_six {n : Int} (h0 : 0 ≤ n) (h1 : n ≤ 1099511627776) : (putL n).length ≤ 6 := by
  unfold putL
  refine leb_len_le 5 _ ?_
  unfold zig
  rw [if_pos h0]
  omega

theorem lay_short {b : Int} {t : List UInt8} (h0 : 0 ≤ b) (h1 : b ≤ 1099511627776) (ht : t.length ≤ 100) : (Ent.mk b 1 t).lay.length ≤ 130 := by
  have a1 := putL_six h0 h1
  have a2 := putL_six (n := 1) (by decide) (by decide)
  have e1 : (putAllL [b, 1] ++ t).length ≤ 112 := by
    simp only [putAllL, List.map_cons, List.map_nil, List.flatten_cons, List.flatten_nil, List.length_append, List.length_nil]
    omega
  have a3 := putL_six (n := ((putAllL [b, 1] ++ t).length : Int)) (by omega) (by omega)
  unfold Ent.lay
  rw [sealL_len]
  unfold putTextL
  rw [List.length_append]
  dsimp only
  omega

theorem lay_it {b : Int} {t : List UInt8} (h0 : 0 ≤ b) (h1 : b + 1 ≤ 1099511627776) (ht : t.length ≤ 100) : layAll b [⟨1, t⟩] [] = (0, [⟨b, 1, t⟩], b + 1) := by
  rw [layAll, if_pos (show (Ent.mk b 1 t).ok from ⟨h0, by show b ≤ _; omega, by show (1 : Int) ≤ 1; omega, by show (1 : Int) ≤ 64; omega, by show t.length ≤ 65536; omega⟩)]
  rw [if_neg (by dsimp only; omega), layAll]
  rfl

/-- With room, what fits is written. -/
theorem NGood.note_room {P : Notes σ} {N : Int} {s s1 : σ} {A : ALog} {D : PDisk} {t : List UInt8} {k : Nat} (h : NGood P N s A D) (hr : Roomed k A D) (hk : k ≤ 82) (ht : t.length ≤ 100) (hf : P.step ⟨A.next, 1, t⟩ s = some s1) :
    ∃ A' D', noteTo s s1 A.toP D ⟨1, t⟩ = (s1, A'.toP, D', 0) ∧ NGood P N s1 A' D' ∧ Roomed (k + 1) A' D' := by
  obtain ⟨r1, r2, r3, r4⟩ := hr
  have hn0 := h.next0
  have hlay := lay_it (b := A.next) hn0 (by omega) ht
  have happ : A.append D [⟨1, t⟩] = A.appendE D [⟨A.next, 1, t⟩] := by
    unfold ALog.append
    rw [if_neg (by simp), if_neg (by rw [h.e]; decide), hlay, if_neg (fun h9 => h9 rfl)]
  have hroom := ALog.appendE_room (A := A) (D := D) (ents := [⟨A.next, 1, t⟩]) h.e r1 (by
    rw [layText_one]
    exact lay_short hn0 (by omega) ht)
  rw [← happ] at hroom
  have hw := h.note (Q := fun _ _ => True) (it := ⟨1, t⟩) hf trivial
  have hcode : (noteTo s s1 A.toP D ⟨1, t⟩).2.2.2 = 0 ∧ (noteTo s s1 A.toP D ⟨1, t⟩).2.2.1.fuse = -1 ∧ 1000 ≤ (noteTo s s1 A.toP D ⟨1, t⟩).2.2.1.room + 4 * (k + 1 : Nat) ∧ (noteTo s s1 A.toP D ⟨1, t⟩).2.2.1.files.length ≤ 3 * (k + 1) ∧ ∃ A1 : ALog, (noteTo s s1 A.toP D ⟨1, t⟩).2.1 = A1.toP ∧ A1.next = A.next + 1 := by
    have hwf : (A.toP.append D [⟨1, t⟩]).2.1.WF N := PLog.append_disk h.wf _
    have ho := h.inv.append_out h.wf h.e [⟨1, t⟩]
    unfold noteTo
    rw [toP_append] at hwf ⊢
    generalize A.append D [⟨1, t⟩] = r at ho hwf hroom ⊢
    cases ho with
    | ok A' D' inv name all next chain first e sure own' off fuse ents =>
      dsimp only at hwf hroom ⊢
      rw [if_neg (by decide), toP_sync]
      have hs := inv.sync_out hwf e
      obtain ⟨g1, g2, g3⟩ := ALog.sync_room (A := A') hroom.1
      generalize A'.sync D' = s at hs g1 g2 g3 ⊢
      cases hs with
      | ok A2 D2 inv2 name2 segs2 e2 sure2 room2 len2 own2 off2 fuse2 =>
        dsimp only at g1 g2 g3 ⊢
        rw [if_neg (by decide)]
        refine ⟨rfl, g1, by dsimp only; omega, by dsimp only; omega, A2, rfl, ?_⟩
        have hn2 : A2.next = A'.next := by unfold ALog.next; rw [segs2]
        rw [hn2, next, mkEnts_one]; rfl
      | dark D2 inv2 off2 was2 =>
        exfalso
        rcases was2 with h9 | h9
        · rw [off] at h9; cases h9
        · have := hroom.1; omega
    | full A' D' inv name segs e sure room len own' off fuse =>
      exfalso
      have := hroom.2.2.2 rfl
      omega
    | bad c why =>
      exfalso
      rcases why with ⟨h9, _⟩ | ⟨_, h9, h10⟩
      · cases h9
      · rw [hlay] at h9
        dsimp only at h9
        omega
    | dark A' A2 D' inv name name2 segs sure sure' e chain max all off was first =>
      exfalso
      rcases was with h9 | h9
      · rw [h.off] at h9; cases h9
      · omega
  generalize noteTo s s1 A.toP D ⟨1, t⟩ = r at hw hcode
  cases hw with
  | ok A' D' good fuse next =>
    obtain ⟨_, c2, c3, c4, A1, c5, c6⟩ := hcode
    have c7 : A'.next = A1.next := congrArg PLog.next c5
    exact ⟨A', D', rfl, good, c2, c3, c4, by rw [c7, c6]; omega⟩
  | no A' D' c good hc fuse => exact absurd hcode.1 hc
  | dark A' D' dark was => exact absurd hcode.1 (show ¬ ((4 : Int) = 0) by decide)
end Go.Proofs.YtgjkjkeeblbjlaaGreatDoor
