/-
  A log as its segments' entries, and what its functions make of it, in plain terms. No conditions.
-/
import Derived.Test.YtnibpknhpjcamaaGreatDoorLogA0
import Derived.Test.YtnibpknhpjcamaaGreatDoorFrameP
set_option maxRecDepth 100000
namespace Go.Proofs.YtnibpknhpjcamaaGreatDoor
open Go.RowKit

structure ASeg where
  base : Int
  ents : List Ent

structure ALog where
  name : List UInt8
  segs : List ASeg
  sure : Int
  e : Int

def endOf (b : Int) (l : List Ent) : Int := match l.getLast? with | none => b | some e => e.base + e.n
def ASeg.next (s : ASeg) : Int := endOf s.base s.ents
def ASeg.size (s : ASeg) : Nat := (layText s.ents).length
def ASeg.seg (s : ASeg) : PSeg := (PSeg.mk s.base 0 0 []).tookAll s.ents
def ALog.first (A : ALog) : Int := match A.segs with | [] => 0 | s :: _ => s.base
def ALog.next (A : ALog) : Int := match A.segs.getLast? with | none => 0 | some s => s.next
def ALog.toP (A : ALog) : PLog := ⟨A.name, A.segs.map ASeg.seg, A.first, A.next, A.sure, A.e⟩
def ALog.all (A : ALog) : List Ent := A.segs.flatMap ASeg.ents

theorem layText_nil : layText [] = [] := rfl
theorem layText_app (a b : List Ent) : layText (a ++ b) = layText a ++ layText b := by unfold layText; rw [List.flatMap_append]
theorem layText_one (e : Ent) : layText [e] = e.lay := by unfold layText; simp
theorem layText_cons (e : Ent) (l : List Ent) : layText (e :: l) = e.lay ++ layText l := by unfold layText; simp
theorem tookAll_app (x : PSeg) (a b : List Ent) : x.tookAll (a ++ b) = (x.tookAll a).tookAll b := by unfold PSeg.tookAll; rw [List.foldl_append]
theorem tookAll_base (x : PSeg) (l : List Ent) : (x.tookAll l).base = x.base := by
  induction l generalizing x with
  | nil => rfl
  | cons e l ih => exact ih (x.took e.base e.lay.length)
theorem tookAll_bytes (x : PSeg) (l : List Ent) : (x.tookAll l).bytes = x.bytes + (layText l).length := by
  induction l generalizing x with
  | nil => simp [PSeg.tookAll, layText]
  | cons e l ih =>
    have h := ih (x.took e.base e.lay.length)
    have h2 : (x.took e.base e.lay.length).bytes = x.bytes + e.lay.length := rfl
    rw [layText_cons, List.length_append]
    show ((x.took e.base e.lay.length).tookAll l).bytes = _
    rw [h, h2]; omega
theorem tookAll_entries (x : PSeg) (l : List Ent) : (x.tookAll l).entries = x.entries + l.length := by
  induction l generalizing x with
  | nil => simp [PSeg.tookAll]
  | cons e l ih =>
    have h := ih (x.took e.base e.lay.length)
    have h2 : (x.took e.base e.lay.length).entries = x.entries + 1 := rfl
    show ((x.took e.base e.lay.length).tookAll l).entries = _
    rw [h, h2, List.length_cons]; omega
theorem seg_base (s : ASeg) : s.seg.base = s.base := tookAll_base _ _
theorem seg_bytes (s : ASeg) : s.seg.bytes = s.size := by unfold ASeg.seg; rw [tookAll_bytes]; simp [ASeg.size]
theorem seg_entries (s : ASeg) : s.seg.entries = s.ents.length := by unfold ASeg.seg; rw [tookAll_entries]; simp

/-- Entries that follow each other. -/
def Chain : Int → List Ent → Prop
  | _, [] => True
  | b, e :: r => e.base = b ∧ e.ok ∧ Chain (b + e.n) r

theorem endOf_nil (b : Int) : endOf b [] = b := rfl
theorem endOf_cons (b : Int) (e : Ent) (l : List Ent) (h : e.base = b) : endOf b (e :: l) = endOf (b + e.n) l := by
  unfold endOf
  cases l with
  | nil => simp; omega
  | cons y l =>
    rw [List.getLast?_cons_cons]
    cases hg : (y :: l).getLast? with
    | none => simp at hg
    | some z => rfl
theorem endOf_app (b : Int) (l m : List Ent) : endOf b (l ++ m) = endOf (endOf b l) m := by
  unfold endOf
  rw [List.getLast?_append]
  cases m.getLast? <;> cases l.getLast? <;> rfl

theorem Chain.app {b : Int} {l m : List Ent} : Chain b (l ++ m) ↔ Chain b l ∧ Chain (endOf b l) m := by
  induction l generalizing b with
  | nil => simp [Chain, endOf_nil]
  | cons e l ih =>
    simp only [List.cons_append, Chain]
    constructor
    · rintro ⟨h1, h2, h3⟩
      obtain ⟨h4, h5⟩ := ih.1 h3
      exact ⟨⟨h1, h2, h4⟩, by rw [endOf_cons b e l h1]; exact h5⟩
    · rintro ⟨⟨h1, h2, h3⟩, h4⟩
      rw [endOf_cons b e l h1] at h4
      exact ⟨h1, h2, ih.2 ⟨h3, h4⟩⟩

theorem Chain.ok {b : Int} {l : List Ent} (h : Chain b l) : ∀ e ∈ l, e.ok := by
  induction l generalizing b with
  | nil => intro e he; cases he
  | cons x l ih =>
    intro e he
    rcases List.mem_cons.1 he with rfl | he
    · exact h.2.1
    · exact ih h.2.2 e he

theorem Chain.le {b : Int} {l : List Ent} (h : Chain b l) : b ≤ endOf b l := by
  induction l generalizing b with
  | nil => exact Int.le_refl _
  | cons x l ih =>
    rw [endOf_cons b x l h.1]
    have := ih h.2.2
    obtain ⟨_, _, h3, _⟩ := h.2.1
    omega

theorem Chain.lt {b : Int} {l : List Ent} (h : Chain b l) (hne : l ≠ []) : b < endOf b l := by
  cases l with
  | nil => exact absurd rfl hne
  | cons x l =>
    rw [endOf_cons b x l h.1]
    have := h.2.2.le
    obtain ⟨_, _, h3, _⟩ := h.2.1
    omega

/-- What items become. -/
def mkEnts : Int → List PItem → List Ent
  | _, [] => []
  | b, x :: r => ⟨b, x.n, x.text⟩ :: mkEnts (b + x.n) r

theorem mkEnts_len (b : Int) (l : List PItem) : (mkEnts b l).length = l.length := by
  induction l generalizing b with
  | nil => rfl
  | cons x l ih => simp [mkEnts, ih]

theorem layAll_ok (its : List PItem) : ∀ (next : Int) (acc ents : List Ent) (nx : Int), layAll next its acc = (0, ents, nx) →
    ents = acc ++ mkEnts next its ∧ nx = endOf next (mkEnts next its) ∧ Chain next (mkEnts next its) ∧ (next ≤ 1099511627776 → nx ≤ 1099511627776) := by
  induction its with
  | nil =>
    intro next acc ents nx h
    simp only [layAll, Prod.mk.injEq, true_and] at h
    obtain ⟨rfl, rfl⟩ := h
    exact ⟨by simp [mkEnts], rfl, trivial, id⟩
  | cons x l ih =>
    intro next acc ents nx h
    rw [layAll] at h
    split at h
    · rename_i hok
      split at h
      · simp at h
      · rename_i hmax
        obtain ⟨h1, h2, h3, h4⟩ := ih _ _ _ _ h
        refine ⟨by rw [h1]; simp [mkEnts], ?_, ⟨rfl, hok, h3⟩, fun _ => h4 (by omega)⟩
        rw [mkEnts, endOf_cons next _ _ rfl]; exact h2
    · simp at h

theorem layAll_err (its : List PItem) : ∀ (next : Int) (acc : List Ent), (layAll next its acc).1 = 0 ∨ (layAll next its acc).1 = 1 ∨ (layAll next its acc).1 = 6 := by
  induction its with
  | nil => intro next acc; exact .inl rfl
  | cons x l ih =>
    intro next acc
    rw [layAll]
    split
    · split
      · exact .inr (.inr rfl)
      · exact ih _ _
    · exact .inr (.inl rfl)

def ALog.sync (A : ALog) (D : PDisk) : ALog × PDisk × Int :=
  match A.segs.getLast? with
  | none => (A, D, A.e)
  | some s => if A.e ≠ 0 then (A, D, A.e) else
    let r := D.sync (segName A.name s.base)
    ({ A with e := r.2, sure := if r.2 = 0 then A.next else A.sure }, r.1, r.2)

def ALog.put (A : ALog) (D : PDisk) (s : ASeg) (before : List ASeg) (ents : List Ent) : ALog × PDisk × Int × Int :=
  let r := D.append (segName A.name s.base) (layText ents)
  if r.2 = 5 then (A, r.1, 0, 5) else if r.2 ≠ 0 then ({ A with e := r.2 }, r.1, 0, r.2)
  else ({ A with e := 0, segs := before ++ [⟨s.base, s.ents ++ ents⟩] }, r.1, headBase ents, 0)

def ALog.act (A : ALog) : Option ASeg := match A.segs.getLast? with | none => none | some s => if s.size < 1024 then some s else none

def ALog.appendE (A : ALog) (D : PDisk) (ents : List Ent) : ALog × PDisk × Int × Int :=
  match A.act with
  | some s => A.put D s A.segs.dropLast ents
  | none =>
    if A.segs = [] then A.put D ⟨A.next, []⟩ [] ents
    else
      let r := A.sync D
      if r.2.2 ≠ 0 then (r.1, r.2.1, 0, r.2.2) else r.1.put r.2.1 ⟨A.next, []⟩ A.segs ents

def ALog.append (A : ALog) (D : PDisk) (its : List PItem) : ALog × PDisk × Int × Int :=
  if its = [] then (A, D, 0, 1) else if A.e ≠ 0 then (A, D, 0, A.e)
  else if (layAll A.next its []).1 ≠ 0 then (A, D, 0, (layAll A.next its []).1)
  else A.appendE D (layAll A.next its []).2.1

theorem toP_last (A : ALog) : A.toP.segs.getLast? = A.segs.getLast?.map ASeg.seg := by simp [ALog.toP]

theorem toP_sync (A : ALog) (D : PDisk) : A.toP.sync D = ((A.sync D).1.toP, (A.sync D).2.1, (A.sync D).2.2) := by
  unfold PLog.sync ALog.sync
  rw [toP_last]
  cases h : A.segs.getLast? with
  | none => rfl
  | some s =>
    simp only [Option.map_some]
    have e1 : A.toP.e = A.e := rfl
    rw [e1, seg_base]
    by_cases he : A.e = 0
    · have hn : ¬ A.e ≠ 0 := fun h => h he
      rw [if_neg hn, if_neg hn]; rfl
    · rw [if_pos he, if_pos he]

theorem toP_act (A : ALog) : A.toP.act = A.act.map ASeg.seg := by
  unfold PLog.act ALog.act
  rw [toP_last]
  cases h : A.segs.getLast? with
  | none => rfl
  | some s =>
    simp only [Option.map_some]
    rw [seg_bytes]
    by_cases hs : s.size < 1024
    · rw [if_pos hs, if_pos (by omega)]; rfl
    · rw [if_neg hs, if_neg (by omega)]; rfl

theorem toP_put {A : ALog} (D : PDisk) {s : ASeg} {before : List ASeg} {ents : List Ent} {nx : Int} (hf : before ≠ [] → before.head?.map ASeg.base = some A.first) (hf2 : before = [] → s.base = A.first) (hx : nx = endOf s.next ents) :
    A.toP.put D s.seg (before.map ASeg.seg) ents nx = ((A.put D s before ents).1.toP, (A.put D s before ents).2.1, (A.put D s before ents).2.2) := by
  unfold PLog.put ALog.put
  have e1 : A.toP.name = A.name := rfl
  rw [e1, seg_base]
  simp only
  split
  · rfl
  · split
    · rfl
    · refine Prod.ext ?_ rfl
      unfold ALog.toP
      simp only [PLog.mk.injEq, true_and, List.map_append, List.map_cons, List.map_nil]
      refine ⟨?_, ?_, ?_, trivial⟩
      · congr 1
        simp only [List.cons.injEq, and_true]
        unfold ASeg.seg
        rw [tookAll_app]
      · cases before with
        | nil => simp [ALog.first, hf2 rfl]
        | cons y l => have := hf (by simp); simp [ALog.first] at this ⊢; exact this.symm
      · rw [hx]
        simp [ALog.next, ASeg.next, endOf_app]

theorem last_split {α : Type} {l : List α} {x : α} (h : l.getLast? = some x) : ∃ a, l = a ++ [x] := by
  rw [List.getLast?_eq_some_iff] at h; exact h

theorem ALog.act_some {A : ALog} {s : ASeg} (h : A.act = some s) : ∃ a, A.segs = a ++ [s] ∧ s.size < 1024 := by
  unfold ALog.act at h
  cases hg : A.segs.getLast? with
  | none => rw [hg] at h; cases h
  | some y =>
    rw [hg] at h
    simp only at h
    split at h
    · cases h
      obtain ⟨a, ha⟩ := last_split hg
      exact ⟨a, ha, by assumption⟩
    · cases h

theorem ALog.act_none {A : ALog} (h : A.act = none) : A.segs = [] ∨ ∃ a s, A.segs = a ++ [s] ∧ 1024 ≤ s.size := by
  unfold ALog.act at h
  cases hg : A.segs.getLast? with
  | none => exact .inl (by simpa using hg)
  | some y =>
    rw [hg] at h
    simp only at h
    split at h
    · cases h
    · obtain ⟨a, ha⟩ := last_split hg
      exact .inr ⟨a, y, ha, by omega⟩

theorem first_snoc (a : List ASeg) (s s' : ASeg) (h : s'.base = s.base) (A A' : ALog) (h1 : A.segs = a ++ [s]) (h2 : A'.segs = a ++ [s']) : A'.first = A.first := by
  unfold ALog.first
  rw [h1, h2]
  cases a with
  | nil => exact h
  | cons y l => rfl

theorem toP_appendE (A : ALog) (D : PDisk) {ents : List Ent} {nx : Int} (hx : nx = endOf A.next ents) :
    A.toP.appendE D ents nx = ((A.appendE D ents).1.toP, (A.appendE D ents).2.1, (A.appendE D ents).2.2) := by
  unfold PLog.appendE ALog.appendE
  rw [toP_act]
  cases h : A.act with
  | some s =>
    simp only [Option.map_some]
    obtain ⟨a, ha, hs⟩ := A.act_some h
    have e1 : A.toP.segs.dropLast = A.segs.dropLast.map ASeg.seg := by simp [ALog.toP, List.map_dropLast]
    rw [e1]
    refine toP_put D ?_ ?_ ?_
    · intro hne
      rw [ha, List.dropLast_concat] at hne ⊢
      unfold ALog.first
      rw [ha]
      cases a with
      | nil => exact absurd rfl hne
      | cons y l => rfl
    · intro hz
      rw [ha, List.dropLast_concat] at hz
      unfold ALog.first
      rw [ha, hz]; rfl
    · rw [hx]
      unfold ALog.next
      rw [ha]; simp
  | none =>
    simp only [Option.map_none]
    by_cases hz : A.segs = []
    · have hz2 : A.toP.segs = [] := by simp [ALog.toP, hz]
      rw [if_pos hz, if_pos hz2]
      have hn : A.toP.next = A.next := rfl
      rw [hn]
      refine toP_put D (s := ⟨A.next, []⟩) (before := []) (by simp) ?_ ?_
      · intro _; simp [ALog.next, ALog.first, hz]
      · rw [hx]; rfl
    · have hz2 : ¬ A.toP.segs = [] := by simpa [ALog.toP] using hz
      rw [if_neg hz, if_neg hz2]
      rw [toP_sync]
      simp only
      split
      · rfl
      · have hseg : (A.sync D).1.segs = A.segs ∧ (A.sync D).1.next = A.next := by
          unfold ALog.sync
          split
          · exact ⟨rfl, rfl⟩
          · split <;> exact ⟨rfl, rfl⟩
        have e3 : (A.toP.next) = A.next := rfl
        have e4 : A.toP.segs = A.segs.map ASeg.seg := rfl
        rw [e3, e4]
        refine toP_put _ (s := ⟨A.next, []⟩) ?_ ?_ ?_
        · intro _
          unfold ALog.first
          rw [hseg.1]
          cases hs : A.segs with
          | nil => exact absurd hs hz
          | cons y l => rfl
        · intro h; exact absurd h hz
        · rw [hx]; rfl

theorem toP_append (A : ALog) (D : PDisk) (its : List PItem) : A.toP.append D its = ((A.append D its).1.toP, (A.append D its).2.1, (A.append D its).2.2) := by
  unfold PLog.append ALog.append
  have e1 : A.toP.e = A.e := rfl
  have e2 : A.toP.next = A.next := rfl
  rw [e1, e2]
  split
  · rfl
  · split
    · rfl
    · split
      · rfl
      · rename_i h
        have h0 : (layAll A.next its []).1 = 0 := Classical.not_not.1 h
        generalize hl : layAll A.next its [] = r at *
        obtain ⟨r1, ents, nx⟩ := r
        simp only at h0
        subst h0
        obtain ⟨h1, h2, h3, h4⟩ := layAll_ok its A.next [] ents nx hl
        refine toP_appendE A D ?_
        rw [h2, h1]; simp

end Go.Proofs.YtnibpknhpjcamaaGreatDoor
