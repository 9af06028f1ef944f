/-
  The marks of a log. No conditions.
-/
import Derived.Test.YtnibpknhpjcamaaGreatDoorGHM
set_option maxRecDepth 100000
namespace Go.Proofs.YtnibpknhpjcamaaGreatDoor
open Go.RowKit

/-- Of each element, with the one ahead of it. -/
def EachP {α : Type} (P : Option α → α → Prop) : Option α → List α → Prop
  | _, [] => True
  | o, x :: r => P o x ∧ EachP P (some x) r

theorem EachP.app {α : Type} {P : Option α → α → Prop} : ∀ {o : Option α} {a b : List α}, EachP P o (a ++ b) ↔ EachP P o a ∧ EachP P (a.getLast?.or o) b
  | o, [], b => by simp [EachP]
  | o, x :: a, b => by
    rw [List.cons_append, EachP, EachP, EachP.app (o := some x) (a := a)]
    have e : (x :: a).getLast?.or o = a.getLast?.or (some x) := by
      cases a with
      | nil => rfl
      | cons y a => rw [List.getLast?_cons_cons]; cases h : (y :: a).getLast? with
        | none => simp at h
        | some z => rfl
    rw [e, and_assoc]

theorem EachP.imp {α : Type} {P Q : Option α → α → Prop} (hPQ : ∀ o x, P o x → Q o x) : ∀ {o : Option α} {l : List α}, EachP P o l → EachP Q o l
  | _, [], _ => trivial
  | _, _ :: _, h => ⟨hPQ _ _ h.1, EachP.imp hPQ h.2⟩

theorem EachP.at {α : Type} {P : Option α → α → Prop} : ∀ {o : Option α} {l : List α} {i : Nat} {x : α}, EachP P o l → l[i]? = some x → P (if i = 0 then o else l[i - 1]?) x
  | _, [], i, x, _, h => by simp at h
  | o, y :: l, 0, x, h, hx => by
    simp only [List.getElem?_cons_zero, Option.some.injEq] at hx
    subst hx
    exact h.1
  | o, y :: l, i + 1, x, h, hx => by
    simp only [List.getElem?_cons_succ] at hx
    have := EachP.at h.2 hx
    rw [if_neg (by omega)]
    cases i with
    | zero => simpa using this
    | succ i => simpa using this

/-- What a mark is of a segment's entries. -/
def MarkIn (base : Int) (ents : List Ent) (x : PMark) : Prop := x.seg = base ∧ ∃ p y q, ents = p ++ y :: q ∧ x.pos = (layText p).length ∧ x.off = y.base
/-- What a mark is behind the one ahead of it. -/
def MarkNext (o : Option PMark) (x : PMark) : Prop := match o with | none => x.pos = 0 ∧ x.off = x.seg | some m => if m.seg = x.seg then 256 ≤ x.pos - m.pos else x.pos = 0 ∧ x.off = x.seg

theorem MarkIn.snoc {base : Int} {ents : List Ent} {x : PMark} (h : MarkIn base ents x) (e : Ent) : MarkIn base (ents ++ [e]) x := by
  obtain ⟨h1, p, y, q, h2, h3, h4⟩ := h
  exact ⟨h1, p, y, q ++ [e], by rw [h2]; simp, h3, h4⟩

theorem seg_marks (b : Int) (o : Option PMark) (ho : ∀ m, o = some m → m.seg ≠ b) (ents : List Ent) (h : Chain b ents) :
    EachP (fun o x => MarkIn b ents x ∧ MarkNext o x) o (ASeg.seg ⟨b, ents⟩).marks ∧ ((ents = [] ∧ (ASeg.seg ⟨b, ents⟩).marks = []) ∨ (∃ m, (ASeg.seg ⟨b, ents⟩).marks.getLast? = some m ∧ m.seg = b ∧ 0 ≤ m.pos ∧ ents ≠ [] ∧ (ASeg.seg ⟨b, ents⟩).marks.countP (fun x => x.pos == 0) = 1)) := by
  induction ents using snoc_ind with
  | h0 => exact ⟨trivial, .inl ⟨rfl, rfl⟩⟩
  | hs l e ih =>
    obtain ⟨h1, h2⟩ := Chain.app.1 h
    obtain ⟨i1, i2⟩ := ih h1
    have hsn : (ASeg.seg ⟨b, l ++ [e]⟩) = (ASeg.seg ⟨b, l⟩).took e.base e.lay.length := tookAll_snoc _ _ _
    obtain ⟨f1, f2⟩ := seg_fields b l
    have hold := i1.imp (Q := fun o x => MarkIn b (l ++ [e]) x ∧ MarkNext o x) (fun o x hx => ⟨hx.1.snoc e, hx.2⟩)
    have hin : MarkIn b (l ++ [e]) ⟨e.base, (ASeg.seg ⟨b, l⟩).base, (ASeg.seg ⟨b, l⟩).bytes⟩ := ⟨f1, l, e, [], rfl, f2, rfl⟩
    rw [hsn]
    rcases i2 with ⟨rfl, hm⟩ | ⟨m, hm, hmb, hmp, hne, hcnt⟩
    · have hmk : ((ASeg.seg ⟨b, []⟩).took e.base e.lay.length).marks = [⟨e.base, (ASeg.seg ⟨b, []⟩).base, (ASeg.seg ⟨b, []⟩).bytes⟩] := by
        unfold PSeg.took
        rw [hm]; rfl
      have heb : e.base = b := h2.1
      have hz : (ASeg.seg ⟨b, []⟩).bytes = 0 := by rw [f2]; rfl
      rw [hmk]
      refine ⟨⟨⟨hin, ?_⟩, trivial⟩, .inr ⟨_, rfl, f1, by show 0 ≤ (ASeg.seg ⟨b, []⟩).bytes; omega, by simp, by simp [hz]⟩⟩
      unfold MarkNext
      cases o with
      | none => exact ⟨hz, by show e.base = _; rw [f1]; exact heb⟩
      | some m =>
        dsimp only
        rw [if_neg (by rw [f1]; exact ho m rfl)]
        exact ⟨hz, by rw [f1]; exact heb⟩
    · by_cases hc : 256 ≤ (ASeg.seg ⟨b, l⟩).bytes - m.pos
      · have hmk : ((ASeg.seg ⟨b, l⟩).took e.base e.lay.length).marks = (ASeg.seg ⟨b, l⟩).marks ++ [⟨e.base, (ASeg.seg ⟨b, l⟩).base, (ASeg.seg ⟨b, l⟩).bytes⟩] := by
          have hmd : (ASeg.seg ⟨b, l⟩).marked = true := by unfold PSeg.marked; rw [hm]; simpa using hc
          unfold PSeg.took
          rw [if_pos hmd]
        rw [hmk]
        refine ⟨EachP.app.2 ⟨hold, ⟨hin, ?_⟩, trivial⟩, .inr ⟨⟨e.base, (ASeg.seg ⟨b, l⟩).base, (ASeg.seg ⟨b, l⟩).bytes⟩, by simp, f1, by show 0 ≤ (ASeg.seg ⟨b, l⟩).bytes; omega, by simp, ?_⟩⟩
        · rw [hm]
          show MarkNext (some m) _
          unfold MarkNext
          dsimp only
          rw [if_pos (by rw [f1]; exact hmb)]
          exact hc
        · rw [List.countP_append, hcnt]
          simp; omega
      · have hmk : ((ASeg.seg ⟨b, l⟩).took e.base e.lay.length).marks = (ASeg.seg ⟨b, l⟩).marks := by
          have hmd : ¬ (ASeg.seg ⟨b, l⟩).marked = true := by unfold PSeg.marked; rw [hm]; simpa using hc
          unfold PSeg.took
          rw [if_neg hmd]
        rw [hmk]
        exact ⟨hold, .inr ⟨m, hm, hmb, hmp, by simp, hcnt⟩⟩

/-- What a mark of a log is. -/
def MarkOf (l : List ASeg) (x : PMark) : Prop := ∃ s ∈ l, MarkIn s.base s.ents x

theorem log_marks : ∀ (l all : List ASeg) (b : Int) (o : Option PMark), SChain b l → (∀ s ∈ l, s.ents ≠ []) → (∀ s ∈ l, s ∈ all) → (∀ m, o = some m → m.seg < b) →
    EachP (fun o x => MarkOf all x ∧ MarkNext o x) o (l.flatMap fun s => s.seg.marks) ∧ (l.flatMap fun s => s.seg.marks).countP (fun x => x.pos == 0) = l.length
  | [], _, _, _, _, _, _, _ => ⟨trivial, rfl⟩
  | s :: l, all, b, o, hc, hne, hall, ho => by
    obtain ⟨rfl, h2, h3⟩ := hc
    obtain ⟨i1, i2⟩ := seg_marks s.base o (fun m hm => by have := ho m hm; omega) s.ents h2
    have e : ASeg.seg ⟨s.base, s.ents⟩ = s.seg := rfl
    rw [e] at i1 i2
    rcases i2 with ⟨h9, _⟩ | ⟨m, hm, hmb, hmp, _, hcnt⟩
    · exact absurd h9 (hne s (by simp))
    · have hlt : s.base < s.next := h2.lt (hne s (by simp))
      obtain ⟨j1, j2⟩ := log_marks l all s.next (some m) h3 (fun x hx => hne x (by simp [hx])) (fun x hx => hall x (by simp [hx])) (fun m' hm' => by injection hm' with hm'; subst hm'; omega)
      rw [List.flatMap_cons]
      refine ⟨EachP.app.2 ⟨i1.imp (fun o x hx => ⟨⟨s, hall s (by simp), hx.1⟩, hx.2⟩), ?_⟩, ?_⟩
      · rw [hm]; exact j1
      · rw [List.countP_append, hcnt, j2, List.length_cons]; omega

/-- The marks of a log. -/
def ALog.marks (A : ALog) : List PMark := A.segs.flatMap fun s => s.seg.marks

theorem ALog.marks_eq (A : ALog) : A.toP.segs.flatMap PSeg.marks = A.marks := by
  show (A.segs.map ASeg.seg).flatMap PSeg.marks = _
  rw [List.flatMap_map]; rfl

theorem Good.marks {A : ALog} {D : PDisk} {k : Nat} (h : Good A D k) : EachP (fun o x => MarkOf A.segs x ∧ MarkNext o x) none A.marks ∧ A.marks.countP (fun x => x.pos == 0) = A.segs.length :=
  log_marks A.segs A.segs A.first none h.inv.chain h.ents (fun _ hs => hs) (fun m hm => by cases hm)
end Go.Proofs.YtnibpknhpjcamaaGreatDoor
