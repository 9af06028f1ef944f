/-
  The marks of a log. No conditions.
  What Open makes of a log's files, torn or not. No conditions.
  A log's numbers, from its disk's; a crash. No conditions.
-/
import Derived.Test.YtgjkjkeeblbjlaaGreatDoorGGM
import Derived.Test.YtgjkjkeeblbjlaaGreatDoorGLM
import Derived.Test.YtgjkjkeeblbjlaaGreatDoorGKM
set_option maxRecDepth 100000
namespace Go.Proofs.YtgjkjkeeblbjlaaGreatDoor
open Go.RowKit

/-- Of each element, with the one ahead of it. -/
def EachP {α : Type} (P : Option α → α → Prop) : Option α → List α → Prop
  | _, [] => True
  | o, x :: r => P o x ∧ EachP P (some x) r

theorem EachP.app {α : Type} {P : Option α → α → Prop} : ∀ {o : Option α} {a b : List α}, EachP P o (a ++ b) ↔ EachP P o a ∧ EachP P (a.getLast?.or o) b
  | o, [], b => by simp [EachP]
  | o, x :: a, b => by
    rw [List.cons_append, EachP, EachP, EachP.app (o := some x) (a := a)]
    have e : (x :: a).getLast?.or o = a.getLast?.or (some x) := by
      cases a with
      | nil => rfl
      | cons y a => rw [List.getLast?_cons_cons]; cases h : (y :: a).getLast? with
        | none => simp at h
        | some z => rfl
    rw [e, and_assoc]

theorem EachP.imp {α : Type} {P Q : Option α → α → Prop} (hPQ : ∀ o x, P o x → Q o x) : ∀ {o : Option α} {l : List α}, EachP P o l → EachP Q o l
  | _, [], _ => trivial
  | _, _ :: _, h => ⟨hPQ _ _ h.1, EachP.imp hPQ h.2⟩

theorem EachP.at {α : Type} {P : Option α → α → Prop} : ∀ {o : Option α} {l : List α} {i : Nat} {x : α}, EachP P o l → l[i]? = some x → P (if i = 0 then o else l[i - 1]?) x
  | _, [], i, x, _, h => by simp at h
  | o, y :: l, 0, x, h, hx => by
    simp only [List.getElem?_cons_zero, Option.some.injEq] at hx
    subst hx
    exact h.1
  | o, y :: l, i + 1, x, h, hx => by
    simp only [List.getElem?_cons_succ] at hx
    have := EachP.at h.2 hx
    rw [if_neg (by omega)]
    cases i with
    | zero => simpa using this
    | succ i => simpa using this

/-- What a mark is of a segment's entries. -/
def MarkIn (base : Int) (ents : List Ent) (x : PMark) : Prop := x.seg = base ∧ ∃ p y q, ents = p ++ y :: q ∧ x.pos = (layText p).length ∧ x.off = y.base
/-- What a mark is behind the one ahead of it. -/
def MarkNext (o : Option PMark) (x : PMark) : Prop := match o with | none => x.pos = 0 ∧ x.off = x.seg | some m => if m.seg = x.seg then 256 ≤ x.pos - m.pos else x.pos = 0 ∧ x.off = x.seg

theorem MarkIn.snoc {base : Int} {ents : List Ent} {x : PMark} (h : MarkIn base ents x) (e : Ent) : MarkIn base (ents ++ [e]) x := by
  obtain ⟨h1, p, y, q, h2, h3, h4⟩ := h
  exact ⟨h1, p, y, q ++ [e], by rw [h2]; simp, h3, h4⟩

theorem seg_marks (b : Int) (o : Option PMark) (ho : ∀ m, o = some m → m.seg ≠ b) (ents : List Ent) (h : Chain b ents) :
    EachP (fun o x => MarkIn b ents x ∧ MarkNext o x) o (ASeg.seg ⟨b, ents⟩).marks ∧ ((ents = [] ∧ (ASeg.seg ⟨b, ents⟩).marks = []) ∨ (∃ m, (ASeg.seg ⟨b, ents⟩).marks.getLast? = some m ∧ m.seg = b ∧ 0 ≤ m.pos ∧ ents ≠ [] ∧ (ASeg.seg ⟨b, ents⟩).marks.countP (fun x => x.pos == 0) = 1)) := by
  induction ents using snoc_ind with
  | h0 => exact ⟨trivial, .inl ⟨rfl, rfl⟩⟩
  | hs l e ih =>
    obtain ⟨h1, h2⟩ := Chain.app.1 h
    obtain ⟨i1, i2⟩ := ih h1
    have hsn : (ASeg.seg ⟨b, l ++ [e]⟩) = (ASeg.seg ⟨b, l⟩).took e.base e.lay.length := tookAll_snoc _ _ _
    obtain ⟨f1, f2⟩ := seg_fields b l
    have hold := i1.imp (Q := fun o x => MarkIn b (l ++ [e]) x ∧ MarkNext o x) (fun o x hx => ⟨hx.1.snoc e, hx.2⟩)
    have hin : MarkIn b (l ++ [e]) ⟨e.base, (ASeg.seg ⟨b, l⟩).base, (ASeg.seg ⟨b, l⟩).bytes⟩ := ⟨f1, l, e, [], rfl, f2, rfl⟩
    rw [hsn]
    rcases i2 with ⟨rfl, hm⟩ | ⟨m, hm, hmb, hmp, hne, hcnt⟩
    · have hmk : ((ASeg.seg ⟨b, []⟩).took e.base e.lay.length).marks = [⟨e.base, (ASeg.seg ⟨b, []⟩).base, (ASeg.seg ⟨b, []⟩).bytes⟩] := by
        unfold PSeg.took
        rw [hm]; rfl
      have heb : e.base = b := h2.1
      have hz : (ASeg.seg ⟨b, []⟩).bytes = 0 := by rw [f2]; rfl
      rw [hmk]
      refine ⟨⟨⟨hin, ?_⟩, trivial⟩, .inr ⟨_, rfl, f1, by show 0 ≤ (ASeg.seg ⟨b, []⟩).bytes; omega, by simp, by simp [hz]⟩⟩
      unfold MarkNext
      cases o with
      | none => exact ⟨hz, by show e.base = _; rw [f1]; exact heb⟩
      | some m =>
        dsimp only
        rw [if_neg (by rw [f1]; exact ho m rfl)]
        exact ⟨hz, by rw [f1]; exact heb⟩
    · by_cases hc : 256 ≤ (ASeg.seg ⟨b, l⟩).bytes - m.pos
      · have hmk : ((ASeg.seg ⟨b, l⟩).took e.base e.lay.length).marks = (ASeg.seg ⟨b, l⟩).marks ++ [⟨e.base, (ASeg.seg ⟨b, l⟩).base, (ASeg.seg ⟨b, l⟩).bytes⟩] := by
          have hmd : (ASeg.seg ⟨b, l⟩).marked = true := by unfold PSeg.marked; rw [hm]; simpa using hc
          unfold PSeg.took
          rw [if_pos hmd]
        rw [hmk]
        refine ⟨EachP.app.2 ⟨hold, ⟨hin, ?_⟩, trivial⟩, .inr ⟨⟨e.base, (ASeg.seg ⟨b, l⟩).base, (ASeg.seg ⟨b, l⟩).bytes⟩, by simp, f1, by show 0 ≤ (ASeg.seg ⟨b, l⟩).bytes; omega, by simp, ?_⟩⟩
        · rw [hm]
          show MarkNext (some m) _
          unfold MarkNext
          dsimp only
          rw [if_pos (by rw [f1]; exact hmb)]
          exact hc
        · rw [List.countP_append, hcnt]
          simp; omega
      · have hmk : ((ASeg.seg ⟨b, l⟩).took e.base e.lay.length).marks = (ASeg.seg ⟨b, l⟩).marks := by
          have hmd : ¬ (ASeg.seg ⟨b, l⟩).marked = true := by unfold PSeg.marked; rw [hm]; simpa using hc
          unfold PSeg.took
          rw [if_neg hmd]
        rw [hmk]
        exact ⟨hold, .inr ⟨m, hm, hmb, hmp, by simp, hcnt⟩⟩

/-- What a mark of a log is. -/
def MarkOf (l : List ASeg) (x : PMark) : Prop := ∃ s ∈ l, MarkIn s.base s.ents x

theorem log_marks : ∀ (l all : List ASeg) (b : Int) (o : Option PMark), SChain b l → (∀ s ∈ l, s.ents ≠ []) → (∀ s ∈ l, s ∈ all) → (∀ m, o = some m → m.seg < b) →
    EachP (fun o x => MarkOf all x ∧ MarkNext o x) o (l.flatMap fun s => s.seg.marks) ∧ (l.flatMap fun s => s.seg.marks).countP (fun x => x.pos == 0) = l.length
  | [], _, _, _, _, _, _, _ => ⟨trivial, rfl⟩
  | s :: l, all, b, o, hc, hne, hall, ho => by
    obtain ⟨rfl, h2, h3⟩ := hc
    obtain ⟨i1, i2⟩ := seg_marks s.base o (fun m hm => by have := ho m hm; omega) s.ents h2
    have e : ASeg.seg ⟨s.base, s.ents⟩ = s.seg := rfl
    rw [e] at i1 i2
    rcases i2 with ⟨h9, _⟩ | ⟨m, hm, hmb, hmp, _, hcnt⟩
    · exact absurd h9 (hne s (by simp))
    · have hlt : s.base < s.next := h2.lt (hne s (by simp))
      obtain ⟨j1, j2⟩ := log_marks l all s.next (some m) h3 (fun x hx => hne x (by simp [hx])) (fun x hx => hall x (by simp [hx])) (fun m' hm' => by injection hm' with hm'; subst hm'; omega)
      rw [List.flatMap_cons]
      refine ⟨EachP.app.2 ⟨i1.imp (fun o x hx => ⟨⟨s, hall s (by simp), hx.1⟩, hx.2⟩), ?_⟩, ?_⟩
      · rw [hm]; exact j1
      · rw [List.countP_append, hcnt, j2, List.length_cons]; omega

/-- The marks of a log. -/
def ALog.marks (A : ALog) : List PMark := A.segs.flatMap fun s => s.seg.marks

theorem ALog.marks_eq (A : ALog) : A.toP.segs.flatMap PSeg.marks = A.marks := by
  show (A.segs.map ASeg.seg).flatMap PSeg.marks = _
  rw [List.flatMap_map]; rfl

end Go.Proofs.YtgjkjkeeblbjlaaGreatDoor

namespace Go.Proofs.YtgjkjkeeblbjlaaGreatDoor
open Go.RowKit

def lenEnt (l : List Ent) : List (Nat × Ent) := l.map (fun e => (e.lay.length, e))

theorem rowL_app : ∀ {p : List Ent} {t : List UInt8}, (∀ e ∈ p, e.ok) → rowL (layText p ++ t) = lenEnt p ++ rowL t
  | [], t, _ => rfl
  | e :: p, t, h => by
    rw [layText_cons, List.append_assoc, rowL_some (takeEnt_lay (h e (by simp)) _), rowL_app (fun x hx => h x (by simp [hx]))]
    simp [lenEnt]

/-- The entries that are whole in the first bytes. -/
theorem row_torn : ∀ (q : List Ent) (n : Nat), (∀ e ∈ q, e.ok) → ∃ q1 q2 t, q = q1 ++ q2 ∧ (layText q).take n = layText q1 ++ t ∧ rowL ((layText q).take n) = lenEnt q1 ∧ ((layText q).length ≤ n → q2 = [])
  | [], n, _ => ⟨[], [], [], rfl, by simp [layText], by simp [layText, lenEnt, rowL_none takeEnt_nil], fun _ => rfl⟩
  | e :: q, n, h => by
    have he := h e (by simp)
    by_cases hn : e.lay.length ≤ n
    · obtain ⟨q1, q2, t, h1, h2, h3, h4⟩ := row_torn q (n - e.lay.length) (fun x hx => h x (by simp [hx]))
      have e1 : (layText (e :: q)).take n = e.lay ++ (layText q).take (n - e.lay.length) := by
        rw [layText_cons, List.take_append, List.take_of_length_le hn]
      refine ⟨e :: q1, q2, t, by rw [h1]; rfl, by rw [e1, h2, layText_cons, List.append_assoc], ?_, fun h9 => h4 ?_⟩
      · rw [e1, rowL_some (takeEnt_lay he _), h3]
        simp [lenEnt]
      · rw [layText_cons, List.length_append] at h9; omega
    · have e1 : (layText (e :: q)).take n = e.lay.take n := by
        rw [layText_cons, List.take_append_of_le_length (by omega)]
      refine ⟨[], e :: q, e.lay.take n, rfl, by rw [e1]; rfl, by rw [e1, rowL_none (takeEnt_torn he (by omega))]; rfl, fun h9 => ?_⟩
      rw [layText_cons, List.length_append] at h9; omega

theorem loadL_chain : ∀ (l : List Ent) (x : PSeg) (next : Int), Chain next l → endOf next l ≤ 1099511627776 → loadL x next (lenEnt l) = (x.tookAll l, endOf next l)
  | [], x, next, _, _ => rfl
  | e :: l, x, next, h, hm => by
    have hle := h.2.2.le
    rw [endOf_cons next e l h.1] at hm ⊢
    show loadL x next ((e.lay.length, e) :: lenEnt l) = _
    rw [loadL, if_neg (by rw [h.1]; omega), loadL_chain l _ _ h.2.2 hm]
    rfl

/-- A log of so many segments. -/
def logOf (name : List UInt8) (a : List ASeg) : PLog := (ALog.mk name a 0 0).toP

theorem logOf_nil (name : List UInt8) : logOf name [] = newLog name := rfl
theorem logOf_next (name : List UInt8) (a : List ASeg) : (logOf name a).next = (ALog.mk name a 0 0).next := rfl

/-- A segment's file is loaded. -/
theorem load_seg {name : List UInt8} {a : List ASeg} {b : Int} {ents : List Ent} {s : List UInt8} (hb : a = [] ∨ (logOf name a).next = b) (hr : rowL s = lenEnt ents) (hc : Chain b ents) (hm : endOf b ents ≤ 1099511627776) :
    ((logOf name a).begin b).next = b ∧ ((logOf name a).begin b).load b s = (logOf name (a ++ [⟨b, ents⟩]), ((layText ents).length : Int)) := by
  have hn : ((logOf name a).begin b).next = b := by
    unfold PLog.begin
    split
    · rfl
    · rename_i h
      rcases hb with h9 | h9
      · subst h9; exact absurd rfl h
      · exact h9
  refine ⟨hn, ?_⟩
  unfold PLog.load
  rw [hr, hn, loadL_chain ents _ b hc hm]
  have hbytes := (seg_fields b ents).2
  have hsg : (PSeg.mk b 0 0 []).tookAll ents = ASeg.seg ⟨b, ents⟩ := rfl
  simp only [hsg]
  rw [hbytes]
  refine Prod.ext ?_ rfl
  have h1 : ((logOf name a).begin b).segs = a.map ASeg.seg := PLog.begin_segs _ _
  have h2 : ((logOf name a).begin b).name = name := PLog.begin_name _ _
  have hf : ((logOf name a).begin b).first = (ALog.mk name (a ++ [⟨b, ents⟩]) 0 0).first := by
    unfold PLog.begin
    cases a with
    | nil => rfl
    | cons y a => rfl
  have hsu : ((logOf name a).begin b).sure = 0 := by unfold PLog.begin; split <;> rfl
  have hse : ((logOf name a).begin b).e = 0 := by unfold PLog.begin; split <;> rfl
  show { ((logOf name a).begin b) with segs := ((logOf name a).begin b).segs ++ [ASeg.seg ⟨b, ents⟩], next := endOf b ents } = logOf name (a ++ [⟨b, ents⟩])
  have e9 : logOf name (a ++ [⟨b, ents⟩]) = PLog.mk name ((a ++ [ASeg.mk b ents]).map ASeg.seg) (ALog.mk name (a ++ [⟨b, ents⟩]) 0 0).first (ALog.mk name (a ++ [⟨b, ents⟩]) 0 0).next 0 0 := rfl
  rw [e9]
  have hnx : (ALog.mk name (a ++ [⟨b, ents⟩]) 0 0).next = endOf b ents := by rw [ALog.next_eq, sEnd_snoc]; rfl
  rw [hnx]
  rw [PLog.mk.injEq]
  exact ⟨h2, by rw [h1]; simp, hf, rfl, hsu, hse⟩

theorem openL_skip (name last : List UInt8) : ∀ (F : List PFile) (L : PLog) (E : PDisk), F.filter (own name) = [] → openL name last F L E = (L, E, 0)
  | [], L, E, _ => rfl
  | f :: F, L, E, h => by
    have h1 : own name f = false := by
      cases ho : own name f with
      | false => rfl
      | true => rw [List.filter_cons, if_pos ho] at h; cases h
    have h2 : F.filter (own name) = [] := by rw [List.filter_cons, if_neg (by rw [h1]; decide)] at h; exact h
    have h3 : segBase name f.name = none := by unfold own at h1; cases hs : segBase name f.name with
      | none => rfl
      | some b => rw [hs] at h1; cases h1
    rw [openL, h3]
    exact openL_skip name last F L E h2

theorem openL_app (name last : List UInt8) : ∀ (F G : List PFile) (L : PLog) (E : PDisk), (openL name last F L E).2.2 = 0 → openL name last (F ++ G) L E = openL name last G (openL name last F L E).1 (openL name last F L E).2.1
  | [], G, L, E, _ => rfl
  | f :: F, G, L, E, h => by
    rw [List.cons_append]
    rw [openL] at h ⊢
    conv => rhs; rw [openL]
    cases hs : segBase name f.name with
    | none =>
      rw [hs] at h
      dsimp only at h ⊢
      exact openL_app name last F G L E h
    | some b =>
      rw [hs] at h
      dsimp only at h ⊢
      split at h
      · simp at h
      · rename_i h1
        rw [if_neg h1, if_neg h1]
        split at h
        · rename_i h2
          rw [if_pos h2, if_pos h2]
          exact openL_app name last F G _ _ h
        · rename_i h2
          rw [if_neg h2, if_neg h2]
          split at h
          · simp at h
          · rename_i h3
            rw [if_neg h3, if_neg h3]
            split at h
            · rename_i h4; exact absurd h h4
            · rename_i h4
              rw [if_neg h4, if_neg h4]
              exact openL_app name last F G _ _ h

/-- Whole files. -/
theorem openL_full (name last : List UInt8) : ∀ (F : List PFile) (a r : List ASeg) (b : Int) (E : PDisk), 0 ≤ b → SChain b r → sEnd b r ≤ 1099511627776 → (a = [] ∨ (logOf name a).next = b) →
    (F.filter (own name)).map (fun f => (f.name, f.sure ++ f.loose)) = r.map (fun s => (segName name s.base, layText s.ents)) → openL name last F (logOf name a) E = (logOf name (a ++ r), E, 0)
  | [], a, r, b, E, _, _, _, _, hF => by
    have : r = [] := by simpa using hF.symm
    subst this
    rw [openL, List.append_nil]
  | f :: F, a, r, b, E, h0, hc, hm, hb, hF => by
    cases ho : own name f with
    | false =>
      rw [List.filter_cons, if_neg (by rw [ho]; decide)] at hF
      have h3 : segBase name f.name = none := by unfold own at ho; cases hs : segBase name f.name with
        | none => rfl
        | some b => rw [hs] at ho; cases ho
      rw [openL, h3]
      exact openL_full name last F a r b E h0 hc hm hb hF
    | true =>
      rw [List.filter_cons, if_pos ho] at hF
      cases r with
      | nil => simp at hF
      | cons s r =>
        simp only [List.map_cons, List.cons.injEq, Prod.mk.injEq] at hF
        obtain ⟨⟨hn, ht⟩, hF⟩ := hF
        obtain ⟨hsb, h2, h3⟩ := hc
        have hle := h2.le
        have hle2 := h3.le
        rw [sEnd_cons] at hm
        have hnx : s.next = endOf s.base s.ents := rfl
        rw [← hsb] at h0 hb hle
        have hsm : s.base ≤ 1099511627776 := by rw [← hsb] at h2; have := h2.le; omega
        have hem : endOf s.base s.ents ≤ 1099511627776 := by omega
        have hrow : rowL (f.sure ++ f.loose) = lenEnt s.ents := by rw [ht]; exact rowL_lay (by rw [← hsb] at h2; exact h2.ok)
        obtain ⟨g1, g2⟩ := load_seg (name := name) (a := a) hb hrow (by rw [← hsb] at h2; exact h2) hem
        have hsz : ((layText s.ents).length : Int) = f.size := by
          have h9 : f.size = (f.sure ++ f.loose).length := by unfold PFile.size; rw [List.length_append]
          rw [h9, ht]
        rw [openL, hn, segBase_name name h0 hsm]
        dsimp only
        rw [if_neg (fun h9 => h9 g1), g2, if_pos hsz]
        have := openL_full name last F (a ++ [s]) r s.next E (by omega) h3 hm (.inr (by rw [logOf_next, ALog.next_eq, sEnd_snoc])) hF
        rw [List.append_assoc] at this
        exact this

theorem filter_split {α : Type} {p : α → Bool} : ∀ {l : List α} {fs : List α} {f : α}, l.filter p = fs ++ [f] → ∃ F G, l = F ++ f :: G ∧ F.filter p = fs ∧ G.filter p = [] ∧ p f = true := by
  intro l
  induction l using snoc_ind with
  | h0 => intro fs f h; simp at h
  | hs l x ih =>
    intro fs f h
    rw [List.filter_append] at h
    by_cases hx : p x = true
    · have e : [x].filter p = [x] := by rw [List.filter_cons, if_pos hx]; rfl
      rw [e] at h
      obtain ⟨h1, h2⟩ := List.append_inj' h rfl
      injection h2 with h2
      subst h2
      exact ⟨l, [], rfl, h1, rfl, hx⟩
    · have e : [x].filter p = [] := by rw [List.filter_cons, if_neg hx]; rfl
      rw [e, List.append_nil] at h
      obtain ⟨F, G, h1, h2, h3, h4⟩ := ih h
      exact ⟨F, G ++ [x], by rw [h1]; simp, h2, by rw [List.filter_append, h3, e]; rfl, h4⟩

theorem lastOwn_skip (name : List UInt8) (F : List PFile) (f : PFile) (G : List PFile) (hf : own name f = true) (hG : G.filter (own name) = []) : lastOwn name (F ++ f :: G) = f.name := by
  induction G using snoc_ind with
  | h0 => rw [lastOwn_snoc, if_pos hf]
  | hs G x ih =>
    rw [List.filter_append] at hG
    obtain ⟨h1, h2⟩ := List.append_eq_nil_iff.1 hG
    have hx : ¬ own name x = true := fun h => by rw [List.filter_cons, if_pos h] at h2; cases h2
    have e : F ++ f :: (G ++ [x]) = (F ++ f :: G) ++ [x] := by simp
    rw [e, lastOwn_snoc, if_neg hx]
    exact ih h1

theorem lastOwn_none (name : List UInt8) (F : List PFile) (h : F.filter (own name) = []) : lastOwn name F = [] := by
  induction F using snoc_ind with
  | h0 => rfl
  | hs F x ih =>
    rw [List.filter_append] at h
    obtain ⟨h1, h2⟩ := List.append_eq_nil_iff.1 h
    have hx : ¬ own name x = true := fun h => by rw [List.filter_cons, if_pos h] at h2; cases h2
    rw [lastOwn_snoc, if_neg hx]
    exact ih h1

/-- A log's files, the last one torn, perhaps. -/
structure TornFiles (A : ALog) (D : PDisk) (a : List ASeg) (s : ASeg) (p q : List Ent) (n : Nat) (fs : List PFile) (f : PFile) : Prop where
  segs : A.segs = a ++ [s]
  ents : s.ents = p ++ q
  files : filesOf A.name D = fs ++ [f]
  fname : f.name = segName A.name s.base
  text : f.sure ++ f.loose = layText p ++ (layText q).take n
  rest : fs.map (fun f => (f.name, f.sure ++ f.loose)) = a.map (fun s => (segName A.name s.base, layText s.ents))
  sync : ∀ g ∈ fs, g.loose = []

/-- A log's numbers, whatever its disk. -/
structure LogOk (A : ALog) : Prop where
  name : okLog A.name = true
  first : 0 ≤ A.first
  top : A.next ≤ 1099511627776
  chain : SChain A.first A.segs
  full : ∀ s ∈ A.segs.dropLast, 1024 ≤ s.size

theorem Inv.logOk {A : ALog} {D : PDisk} (h : Inv A D) : LogOk A := ⟨h.name, h.first, h.top, h.chain, h.full⟩

theorem Inv.torn {A : ALog} {D : PDisk} (h : Inv A D) {a : List ASeg} {s : ASeg} (hs : A.segs = a ++ [s]) : ∃ p q n fs f, TornFiles A D a s p q n fs f ∧ A.sure = endOf s.base p ∧ (layText q).length ≤ n := by
  obtain ⟨fs, f, h1, h2, ⟨p, q, h3, h4, h5, h6⟩, h7, h8⟩ := h.last hs
  exact ⟨p, q, (layText q).length, fs, f, ⟨hs, h3, h1, h2, by rw [h4, h5, List.take_length], h7, h8⟩, h6, Nat.le_refl _⟩

/-- What Open makes of it. -/
theorem TornFiles.opened {A : ALog} {D : PDisk} {N : Int} {a : List ASeg} {s : ASeg} {p q : List Ent} {n : Nat} {fs : List PFile} {f : PFile} (h : TornFiles A D a s p q n fs f) (hA : LogOk A) (hw : D.WF N) (ho : D.off = false) (hfu : D.fuse = -1) :
    ∃ q1 q2 A3 D3, q = q1 ++ q2 ∧ ((layText q).length ≤ n → q2 = []) ∧ A3.name = A.name ∧ A3.e = 0 ∧ A3.sure = A3.next ∧ A3.segs = a ++ [⟨s.base, p ++ q1⟩] ∧ D.openLog A.name = (A3.toP, D3, 0) ∧ Inv A3 D3 ∧ D3.WF N ∧ D3.off = false ∧ D3.fuse = -1 ∧
      ((∀ g ∈ D.files, own A.name g = true) → ∀ g ∈ D3.files, own A.name g = true) := by
  have hch := hA.chain
  rw [h.segs] at hch
  obtain ⟨c1, c2, c3, _⟩ := SChain.app.1 hch
  rw [← c2] at c3
  have hA0 := hA.first
  have hnx : A.next = s.next := by rw [A.next_eq, h.segs, sEnd_snoc]
  have hsb0 : 0 ≤ s.base := by rw [c2]; have := c1.le; omega
  have hsx : s.next = endOf s.base s.ents := rfl
  have htop := hA.top
  have hc3 := c3
  rw [h.ents] at hc3
  obtain ⟨q1, q2, t, h1, h2, h3, h4⟩ := row_torn q n (fun e he => c3.ok e (by rw [h.ents]; simp [he]))
  have hc4 : Chain s.base (p ++ q1) := by
    rw [h1, ← List.append_assoc] at hc3
    exact (Chain.app.1 hc3).1
  have hend : endOf s.base (p ++ q1) ≤ A.next := by
    rw [h1, ← List.append_assoc] at hc3
    have := (endOf_prefix hc3).1
    rw [List.append_assoc, ← h1, ← h.ents] at this
    omega
  have hok4 := hc4.ok
  have hrow : rowL (f.sure ++ f.loose) = lenEnt (p ++ q1) := by
    rw [h.text, rowL_app (fun e he => hok4 e (by simp [he])), h3]
    unfold lenEnt; simp
  have htx : f.sure ++ f.loose = layText (p ++ q1) ++ t := by rw [h.text, h2, layText_app, List.append_assoc]
  obtain ⟨F, G, hF, hFf, hGf, hown⟩ := filter_split h.files
  have hlast := lastOwn_skip A.name F f G hown hGf
  rw [← hF] at hlast
  have hpos : s.base ≤ s.next := by rw [hsx]; exact c3.le
  have hload := load_seg (name := A.name) (a := a) (b := s.base) (s := f.sure ++ f.loose) (ents := p ++ q1) (by
    cases ha : a with
    | nil => exact .inl rfl
    | cons y a' =>
      right
      rw [logOf_next, ALog.next_eq, c2, ← ha]
      show sEnd (ALog.mk A.name a 0 0).first a = sEnd A.first a
      unfold sEnd
      rw [ha]
      cases hg : (y :: a').getLast? with
      | none => simp at hg
      | some z => rfl) hrow hc4 (by omega)
  obtain ⟨l1, l2⟩ := hload
  have hfull := openL_full A.name f.name F [] a A.first D hA.first c1 (by rw [← c2]; omega) (.inl rfl) (by rw [hFf]; exact h.rest)
  rw [logOf_nil, List.nil_append] at hfull
  have hlook : D.look f.name = some f := look_own hw (by rw [h.files]; simp) rfl
  have hokn : okName f.name = true := by rw [h.fname]; exact segName_ok hA.name _
  have hready : D.ready f.name = 0 := by unfold PDisk.ready; rw [if_pos hokn, ho]; rfl
  have hfz : f.size = (f.sure ++ f.loose).length := by unfold PFile.size; rw [List.length_append]
  have hG0 : (layText (p ++ q1)).length ≤ f.size := by rw [hfz, htx, List.length_append]; omega
  -- the disk behind the cut
  obtain ⟨E, hE, hEw, hEo, hEf, f1, hEF, hf1n, hf1t, hEown⟩ : ∃ E, openL A.name f.name D.files (newLog A.name) D = (logOf A.name (a ++ [⟨s.base, p ++ q1⟩]), E, 0) ∧ E.WF N ∧ E.off = false ∧ E.fuse = -1 ∧
      ∃ f1, filesOf A.name E = fs ++ [f1] ∧ f1.name = f.name ∧ f1.sure ++ f1.loose = layText (p ++ q1) ∧ ((∀ g ∈ D.files, own A.name g = true) → ∀ g ∈ E.files, own A.name g = true) := by
    rw [hF, openL_app _ _ _ _ _ _ (by rw [hfull])]
    rw [hfull]
    dsimp only
    rw [openL, h.fname, segBase_name A.name hsb0 (by omega)]
    dsimp only
    rw [if_neg (fun h9 => h9 l1), l2]
    by_cases hz : ((layText (p ++ q1)).length : Int) = f.size
    · rw [if_pos hz]
      refine ⟨D, openL_skip _ _ _ _ _ hGf, hw, ho, hfu, f, h.files, h.fname, ?_, ?_⟩
      · have : t = [] := by
          rw [hfz, htx, List.length_append] at hz
          exact List.eq_nil_of_length_eq_zero (by omega)
        rw [htx, this, List.append_nil]
      · rw [hF]; exact id
    · rw [if_neg hz, if_neg (by simp)]
      have htr : D.truncate (segName A.name s.base) ((layText (p ++ q1)).length : Int) = ({ D with files := putF D.files (f.cut (layText (p ++ q1)).length), room := D.room + (blk f.size - blk ((layText (p ++ q1)).length : Int)) }, 0) := by
        rw [← h.fname]
        unfold PDisk.truncate
        rw [if_neg (by rw [hready]; decide), if_neg (by rintro ⟨g, hg, h9⟩; rw [hlook] at hg; injection hg with hg; subst hg; omega)]
        unfold PDisk.work
        rw [if_neg (by rw [hready]; decide), hlook]
        have hb : D.burn = (D, true) := by unfold PDisk.burn; rw [if_neg (by omega), if_neg (by omega)]
        dsimp only
        rw [hb, if_pos rfl]
        rfl
      rw [htr]
      dsimp only
      rw [if_neg (by decide)]
      have hwt := hw.truncate (segName A.name s.base) ((layText (p ++ q1)).length : Int)
      rw [htr] at hwt
      have hfl := filesOf_put_last (name := A.name) (D' := { D with files := putF D.files (f.cut (layText (p ++ q1)).length), room := D.room + (blk f.size - blk ((layText (p ++ q1)).length : Int)) }) hw (f' := f.cut (layText (p ++ q1)).length) h.files rfl rfl
      refine ⟨_, openL_skip _ _ _ _ _ hGf, hwt, ho, hfu, _, hfl, h.fname, ?_, ?_⟩
      · unfold PFile.cut
        dsimp only
        have e1 : f.sure.take (min (layText (p ++ q1)).length f.sure.length) ++ f.loose.take ((layText (p ++ q1)).length - min (layText (p ++ q1)).length f.sure.length) = (f.sure ++ f.loose).take (layText (p ++ q1)).length := by
          rw [List.take_append]
          congr 1
          · by_cases h9 : (layText (p ++ q1)).length ≤ f.sure.length
            · rw [Nat.min_eq_left h9]
            · rw [Nat.min_eq_right (by omega), List.take_of_length_le (Nat.le_refl _), List.take_of_length_le (by omega)]
          · congr 1; omega
        rw [e1, htx, List.take_left]
      · intro hg
        exact putF_own hown (by rw [hF]; exact hg)
  -- the sync
  have hlookE : E.look f.name = some f1 := look_own hEw (by rw [hEF]; simp) hf1n
  have hne : f.name ≠ [] := by rw [h.fname]; unfold segName; simp
  rcases E.sync_out hokn hlookE with ⟨_, h6⟩ | ⟨D', _, _, _, h7⟩ | ⟨D', h5, h6, h7, h8, h9, h10, h11⟩
  · rw [hEo] at h6; cases h6
  · omega
  · have hws := hEw.sync f.name
    rw [h5] at hws
    have hFs := filesOf_put_last (name := A.name) (D' := D') hEw (f' := { f1 with sure := f1.sure ++ f1.loose, loose := [] }) hEF rfl h6
    have hsegs3 : (ALog.mk A.name (a ++ [⟨s.base, p ++ q1⟩]) (endOf s.base (p ++ q1)) 0).next = endOf s.base (p ++ q1) := by rw [ALog.next_eq, sEnd_snoc]; rfl
    have hfi3 : (ALog.mk A.name (a ++ [⟨s.base, p ++ q1⟩]) (endOf s.base (p ++ q1)) 0).first = A.first := by
      unfold ALog.first
      rw [h.segs]
      cases a with
      | nil => rfl
      | cons y l => rfl
    refine ⟨q1, q2, ⟨A.name, a ++ [⟨s.base, p ++ q1⟩], endOf s.base (p ++ q1), 0⟩, D', h1, h4, rfl, rfl, hsegs3.symm, rfl, ?_, ?_, hws, h8, h11 hEf, ?_⟩
    · unfold PDisk.openLog
      rw [if_neg (by rw [hA.name]; decide), if_neg (by rw [ho]; decide)]
      dsimp only
      rw [hlast, hE, if_neg (fun h9 => h9 rfl), if_neg hne]
      rw [h5, if_neg (fun h9 => h9 rfl)]
      refine Prod.ext ?_ rfl
      unfold logOf ALog.toP
      dsimp only
      rw [PLog.mk.injEq]
      exact ⟨rfl, rfl, rfl, rfl, hsegs3, rfl⟩
    · refine ⟨hA.name, by rw [hfi3]; exact hA.first, by rw [hsegs3]; omega, ?_, ?_, ?_, ?_, ?_, ?_⟩
      · rw [hfi3]
        exact SChain.app.2 ⟨c1, c2, by rw [← c2]; exact hc4, trivial⟩
      · dsimp only
        rw [List.dropLast_concat]
        have := hA.full
        rw [h.segs, List.dropLast_concat] at this
        exact this
      · dsimp only
        rw [hFs, List.map_append, List.map_append, h.rest]
        simp only [List.map_cons, List.map_nil, List.append_nil]
        rw [hf1n, h.fname, hf1t]
      · dsimp only
        rw [hFs, List.dropLast_concat]
        exact h.sync
      · intro s' f' hs' hf'
        dsimp only at hs' hf'
        rw [hFs] at hf'
        simp only [List.getLast?_append, List.getLast?_singleton, Option.some_or, Option.some.injEq] at hs' hf'
        subst hs' hf'
        exact ⟨p ++ q1, [], by simp, hf1t, rfl, rfl⟩
      · intro hz
        simp at hz
    · intro hg
      rw [h6]
      exact putF_own (by unfold own at hown ⊢; show (segBase A.name f1.name).isSome = true; rw [hf1n]; exact hown) (hEown hg)
end Go.Proofs.YtgjkjkeeblbjlaaGreatDoor

namespace Go.Proofs.YtgjkjkeeblbjlaaGreatDoor
open Go.RowKit

theorem lay_pos (e : Ent) : 4 ≤ e.lay.length := by unfold Ent.lay; rw [sealL_len]; omega

theorem lay_count (l : List Ent) : 4 * l.length ≤ (layText l).length := by
  induction l with
  | nil => simp
  | cons e l ih =>
    rw [layText_cons, List.length_append, List.length_cons]
    have := lay_pos e
    omega

theorem Inv.segs_files {A : ALog} {D : PDisk} (h : Inv A D) : A.segs.length = (filesOf A.name D).length := by
  have := congrArg List.length h.files
  simpa using this.symm

theorem filter_sumBlk (p : PFile → Bool) (l : List PFile) : sumBlk (l.filter p) ≤ sumBlk l := by
  induction l with
  | nil => simp [sumBlk]
  | cons f l ih =>
    rw [List.filter_cons, sumBlk_cons]
    have := blk_pos f.size
    split
    · rw [sumBlk_cons]; omega
    · omega

theorem texts_sum : ∀ (F : List PFile) (r : List ASeg) (name : List UInt8), F.map (fun f => (f.name, f.sure ++ f.loose)) = r.map (fun s => (segName name s.base, layText s.ents)) → 4 * ((r.flatMap ASeg.ents).length : Int) ≤ 64 * sumBlk F
  | [], r, name, h => by
    have : r = [] := by simpa using h.symm
    subst this
    simp [sumBlk]
  | f :: F, r, name, h => by
    cases r with
    | nil => simp at h
    | cons s r =>
      simp only [List.map_cons, List.cons.injEq, Prod.mk.injEq] at h
      have ih := texts_sum F r name h.2
      have h1 := lay_count s.ents
      rw [← h.1.2, List.length_append] at h1
      have h2 := blk_le (f.size : Int) (by omega)
      have h3 : f.size = f.sure.length + f.loose.length := rfl
      rw [List.flatMap_cons, List.length_append, sumBlk_cons]
      omega

theorem Inv.count {A : ALog} {D : PDisk} {N : Int} (h : Inv A D) (hw : D.WF N) : A.all.length ≤ 262144 := by
  have h1 := texts_sum _ _ _ h.files
  have h2 := filter_sumBlk (own A.name) D.files
  have h3 := hw.sum
  have h4 := hw.size
  have h5 := hw.room
  have h6 : sumBlk (filesOf A.name D) = sumBlk (D.files.filter (own A.name)) := rfl
  unfold ALog.all
  omega

theorem Inv.wf {A : ALog} {D : PDisk} {N : Int} (h : Inv A D) (hw : D.WF N) : A.toP.WF := by
  have hmem : ∀ x ∈ A.toP.segs, ∃ s ∈ A.segs, s.seg = x := fun x hx => List.mem_map.1 hx
  have h0 : 0 ≤ A.next := by have h1 := h.sure_le; have h2 := h.first; omega
  refine ⟨h.nlen, ?_, ?_, ?_, ?_, ?_, ⟨h0, h.top⟩⟩
  · have h1 : A.toP.segs.length = A.segs.length := by show (A.segs.map ASeg.seg).length = _; rw [List.length_map]
    have h2 := h.segs_files
    have h3 : (filesOf A.name D).length ≤ D.files.length := List.length_filter_le _ _
    have := hw.count
    omega
  · intro x hx
    obtain ⟨s, hs, rfl⟩ := hmem x hx
    rw [seg_base]
    exact ⟨(h.base hs).1, h.base_max hs⟩
  · intro x hx
    obtain ⟨s, hs, rfl⟩ := hmem x hx
    have := h.seg_len hw hs
    rw [seg_bytes]
    unfold ASeg.size
    omega
  · intro x hx
    obtain ⟨s, hs, rfl⟩ := hmem x hx
    have h1 := h.seg_len hw hs
    have h2 := lay_count s.ents
    rw [seg_entries]
    omega
  · intro x hx
    obtain ⟨s, hs, rfl⟩ := hmem x hx
    have h1 := h.seg_len hw hs
    have h2 := lay_count s.ents
    obtain ⟨m1, _⟩ := seg_marks s.base none (fun m hm => by cases hm) s.ents (h.chains hs)
    have e : ASeg.seg ⟨s.base, s.ents⟩ = s.seg := rfl
    rw [e] at m1
    obtain ⟨_, _, _, _, hlen, _⟩ := tookAll_num (PSeg.mk s.base 0 0 []) s.ents (h.chains hs).ok (Int.le_refl _) (by simp)
    have hlen : s.seg.marks.length ≤ 0 + s.ents.length := hlen
    refine ⟨by omega, fun y hy => ?_⟩
    obtain ⟨i, hi⟩ := List.getElem?_of_mem hy
    obtain ⟨⟨_, p, z, q, h3, h4, _⟩, _⟩ := m1.at hi
    rw [h4, seg_bytes]
    unfold ASeg.size
    rw [h3, layText_app, List.length_append]
    omega

/-- Files behind a crash. -/
def CrashedL : List PFile → List PFile → Prop
  | [], [] => True
  | f :: F, g :: G => (∃ k, g = f.crashed k) ∧ CrashedL F G
  | _, _ => False

theorem crashF_L (keep : List Int) : ∀ (l : List PFile) (i : Nat), CrashedL l (crashF keep i l)
  | [], _ => trivial
  | f :: l, i => by
    rw [crashF_cons]
    exact ⟨⟨_, rfl⟩, crashF_L keep l (i + 1)⟩

theorem CrashedL.filter (name : List UInt8) : ∀ {F G : List PFile}, CrashedL F G → CrashedL (F.filter (own name)) (G.filter (own name))
  | [], [], _ => trivial
  | f :: F, g :: G, h => by
    obtain ⟨⟨k, rfl⟩, h2⟩ := h
    have ih := CrashedL.filter name h2
    have e : own name (f.crashed k) = own name f := rfl
    rw [List.filter_cons, List.filter_cons, e]
    split
    · exact ⟨⟨k, rfl⟩, ih⟩
    · exact ih
  | [], _ :: _, h => h.elim
  | _ :: _, [], h => h.elim

theorem CrashedL.snoc : ∀ {F G : List PFile} {f : PFile}, CrashedL (F ++ [f]) G → ∃ gs k, G = gs ++ [f.crashed k] ∧ CrashedL F gs
  | [], G, f, h => by
    cases G with
    | nil => exact h.elim
    | cons g G =>
      obtain ⟨⟨k, rfl⟩, h2⟩ := h
      cases G with
      | nil => exact ⟨[], k, rfl, trivial⟩
      | cons _ _ => exact h2.elim
  | x :: F, G, f, h => by
    cases G with
    | nil => exact h.elim
    | cons g G =>
      obtain ⟨h1, h2⟩ := h
      obtain ⟨gs, k, rfl, h3⟩ := CrashedL.snoc h2
      exact ⟨g :: gs, k, rfl, h1, h3⟩

theorem CrashedL.quiet : ∀ {F G : List PFile}, CrashedL F G → (∀ f ∈ F, f.loose = []) → G.map (fun f => (f.name, f.sure ++ f.loose)) = F.map (fun f => (f.name, f.sure ++ f.loose)) ∧ ∀ g ∈ G, g.loose = []
  | [], [], _, _ => ⟨rfl, fun g hg => by cases hg⟩
  | f :: F, g :: G, h, hq => by
    obtain ⟨⟨k, rfl⟩, h2⟩ := h
    obtain ⟨i1, i2⟩ := CrashedL.quiet h2 (fun x hx => hq x (by simp [hx]))
    have hl := hq f (by simp)
    refine ⟨?_, fun x hx => ?_⟩
    · rw [List.map_cons, List.map_cons, i1]
      congr 1
      unfold PFile.crashed
      rw [hl]; simp
    · rcases List.mem_cons.1 hx with rfl | hx
      · rfl
      · exact i2 x hx
  | [], _ :: _, h, _ => h.elim
  | _ :: _, [], h, _ => h.elim

theorem Inv.crash {A : ALog} {D : PDisk} (h : Inv A D) (keep : List Int) {a : List ASeg} {s : ASeg} (hs : A.segs = a ++ [s]) : ∃ p q n fs f, TornFiles A (D.crash keep) a s p q n fs f ∧ A.sure = endOf s.base p := by
  obtain ⟨fs, f, h1, h2, ⟨p, q, h3, h4, h5, h6⟩, h7, h8⟩ := h.last hs
  have hc := (crashF_L keep D.files 0).filter A.name
  have e1 : D.files.filter (own A.name) = fs ++ [f] := h1
  rw [e1] at hc
  obtain ⟨gs, k, hG, hq⟩ := hc.snoc
  obtain ⟨m1, m2⟩ := hq.quiet h8
  refine ⟨p, q, k, gs, f.crashed k, ⟨hs, h3, hG, h2, ?_, by rw [m1]; exact h7, m2⟩, h6⟩
  unfold PFile.crashed
  dsimp only
  rw [List.append_nil, h4, h5]

theorem CrashedL.none : ∀ {F G : List PFile}, CrashedL F G → F = [] → G = []
  | [], [], _, _ => rfl
  | [], _ :: _, h, _ => h.elim
  | _ :: _, _, _, h => by cases h

/-- What Open makes behind a crash: all that was synced, and of the rest a beginning. -/
theorem Inv.reopen1 {A : ALog} {D : PDisk} {N : Int} (h : Inv A D) (hw : D.WF N) (keep : List Int) :
    ∃ A3 D3 r, (D.crash keep).openLog A.name = (A3.toP, D3, 0) ∧ A.all = A3.all ++ r ∧ A.sure ≤ A3.next ∧ A3.sure = A3.next ∧ A3.e = 0 ∧ A3.name = A.name ∧ Inv A3 D3 ∧ D3.WF N ∧ D3.off = false ∧ D3.fuse = -1 ∧ A3.first = A.first := by
  have hwc := hw.crash keep
  rcases List.eq_nil_or_concat A.segs with h0 | ⟨a, s, h0⟩
  · have hfl : filesOf A.name D = [] := by have := h.files; rw [h0] at this; simpa using this
    have hfc : filesOf A.name (D.crash keep) = [] := ((crashF_L keep D.files 0).filter A.name).none hfl
    have hfc2 : (D.crash keep).files.filter (own A.name) = [] := hfc
    refine ⟨⟨A.name, [], 0, 0⟩, D.crash keep, [], ?_, by unfold ALog.all; rw [h0]; rfl, ?_, rfl, rfl, rfl, ?_, hwc, rfl, rfl, by unfold ALog.first; rw [h0]⟩
    · unfold PDisk.openLog
      rw [if_neg (by rw [h.name]; decide), if_neg (show ¬ (D.crash keep).off = true by simp [PDisk.crash])]
      dsimp only
      rw [openL_skip _ _ _ _ _ hfc2, if_neg (fun h9 => h9 rfl), lastOwn_none _ _ hfc2, if_pos rfl]
      rfl
    · rw [h.nosegs h0]; exact Int.le_refl _
    · refine ⟨h.name, Int.le_refl _, (by decide : (0 : Int) ≤ 1099511627776), trivial, fun s hs => by simp at hs, ?_, ?_, fun s f hs => by simp at hs, fun _ => rfl⟩
      · show (filesOf A.name (D.crash keep)).map _ = []
        rw [hfc]; rfl
      · intro f hf
        have hf : f ∈ (filesOf A.name (D.crash keep)).dropLast := hf
        rw [hfc] at hf; cases hf
  · rw [List.concat_eq_append] at h0
    obtain ⟨p, q, n, fs, f, ht, hsu⟩ := h.crash keep h0
    obtain ⟨q1, q2, A3, D3, g1, g2, g3, g4, g5, g6, g7, g8, g9, g10, g11, g12⟩ := ht.opened h.logOk hwc rfl rfl
    have hn3 : A3.next = endOf s.base (p ++ q1) := by rw [ALog.next_eq, g6, sEnd_snoc]; rfl
    refine ⟨A3, D3, q2, g7, ?_, ?_, g5, g4, g3, g8, g9, g10, g11, first_snoc a s ⟨s.base, p ++ q1⟩ rfl A A3 h0 g6⟩
    · rw [all_snoc A h0, all_snoc A3 g6, ht.ents, g1]; simp
    · rw [hsu, hn3]
      have hc : Chain s.base (p ++ q1) := g8.chains (s := ⟨s.base, p ++ q1⟩) (by rw [g6]; simp)
      exact (endOf_prefix hc).1

theorem Inv.reopen {A : ALog} {D : PDisk} {N : Int} (h : Inv A D) (hw : D.WF N) (keep : List Int) :
    ∃ A3 D3 r, (D.crash keep).openLog A.name = (A3.toP, D3, 0) ∧ A.all = A3.all ++ r ∧ A.sure ≤ A3.next ∧ A3.sure = A3.next ∧ A3.e = 0 ∧ A3.name = A.name ∧ Inv A3 D3 ∧ D3.WF N ∧ D3.off = false ∧ D3.fuse = -1 := by
  obtain ⟨A3, D3, r, h1, h2, h3, h4, h5, h6, h7, h8, h9, h10, _⟩ := h.reopen1 hw keep
  exact ⟨A3, D3, r, h1, h2, h3, h4, h5, h6, h7, h8, h9, h10⟩
end Go.Proofs.YtgjkjkeeblbjlaaGreatDoor
