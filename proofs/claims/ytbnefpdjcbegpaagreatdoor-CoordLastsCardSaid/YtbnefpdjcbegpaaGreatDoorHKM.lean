/-
  Transactions' rows, plain: what a note makes of them, and what stays true. No conditions.
  Transactions' rows, plain: where a row stands, and their cells. No conditions.
  Notes about transactions as texts. No conditions.
  slices.Clone at transactions' rows: the walk. Conditions: lengths that fit.
  txn: producer, Check, Encode, Decode, Row, right: the walks. Conditions: rows that read.
  txn: Decode, Row: the walks. Conditions: rows that read.
  txn: find (slices.BinarySearchFunc at rows), right: the walks. Conditions: rows that read.
  txn: right, of rows that may be: the walk. Conditions: rows that read.
  slices.Insert of one row at transactions' rows: the walk. Conditions: a row of the call's own.
  slices.Insert of one row ahead of others: the walks. Conditions: a row of the call's own.
  slices.Insert of one row ahead of others, with no room: the walk; all ways together. Conditions: a row of the call's own.
-/
import Derived.WalkKit
import Derived.Test.YtbnefpdjcbegpaaGreatDoorGBM
import Derived.Test.YtbnefpdjcbegpaaGreatDoorGAM
import Derived.Deep.LoopGhost
import Derived.Shelf.Abstract
import Derived.Lib.Walk
import Derived.Lib.SmallJoins
import Derived.Lib.SliceRun
import Derived.BigQuiet
import Derived.Deep.QuietTactic
import Derived.Test.YtbnefpdjcbegpaaGreatDoorGPM
import Derived.Shelf.Spec.SlicesInsertGrow
set_option maxRecDepth 100000
namespace Go.Proofs.YtbnefpdjcbegpaaGreatDoor
open Go.RowKit

structure PTr where
  pid : Int
  epoch : Int
  state : Int
  parts : Int
  last : Int
deriving DecidableEq

/-- A note: its kind, its producer, its partitions. -/
structure TNote where
  kind : Int
  pid : Int
  parts : Int
def TNote.nums (n : TNote) : List Int := [n.kind, n.pid, n.parts]

def TNote.ok (n : TNote) : Prop := (1 ≤ n.pid ∧ n.pid ≤ 8) ∧ (1 ≤ n.kind ∧ n.kind ≤ 5) ∧ (n.kind = 2 → 1 ≤ n.parts ∧ n.parts < 8192) ∧ (n.kind ≠ 2 → n.parts = 0)
instance tnoteOkDec (n : TNote) : Decidable n.ok := by unfold TNote.ok; infer_instance

/-- May rows be? -/
structure TRight (l : List PTr) : Prop where
  all : ∀ t ∈ l, (1 ≤ t.pid ∧ t.pid ≤ 8) ∧ 1 ≤ t.epoch ∧ t.epoch ≤ 1099511627776
  asc : l.Pairwise fun s t => s.pid < t.pid

def rowOf (l : List PTr) (pid : Int) : Option PTr := l.find? fun t => t.pid == pid
/-- A row in its place. -/
def insTr : List PTr → PTr → List PTr
  | [], t => [t]
  | x :: l, t => if x.pid < t.pid then x :: insTr l t else t :: x :: l
/-- A row in another one's place. -/
def setTr (l : List PTr) (t : PTr) : List PTr := l.map fun x => if x.pid = t.pid then t else x

def orI (a b : Int) : Int := bits BinOp.or IntKind.i64 a b

/-- What becomes of a row. -/
def PTr.turn (t : PTr) (n : TNote) : Option PTr :=
  if n.kind = 1 then (if t.state = 1 then some ⟨t.pid, t.epoch + 1, t.state, 0, 0⟩ else none)
  else if n.kind = 2 then (if t.state = 1 ∨ t.state = 2 then some ⟨t.pid, t.epoch, 2, orI t.parts n.parts, t.last⟩ else none)
  else if n.kind = 3 ∨ n.kind = 4 then (if t.state = 2 then some ⟨t.pid, t.epoch, n.kind, t.parts, t.last⟩ else none)
  else (if t.state = 3 ∨ t.state = 4 then some ⟨t.pid, t.epoch + 1, 1, 0, t.state⟩ else none)

/-- The rows behind a note, or why it does not fit. -/
def foldT (l : List PTr) (n : TNote) : List PTr × Int :=
  if ¬ n.ok then ([], 1) else
  match rowOf l n.pid with
  | none => if n.kind = 1 then (insTr l ⟨n.pid, 1, 1, 0, 0⟩, 0) else ([], 3)
  | some t => match t.turn n with
    | none => ([], 9)
    | some u => if 1099511627776 < u.epoch then ([], 6) else (setTr l u, 0)

theorem rowOf_mem {l : List PTr} {pid : Int} {t : PTr} (h : rowOf l pid = some t) : t ∈ l ∧ t.pid = pid :=
  ⟨List.mem_of_find?_eq_some h, by simpa using List.find?_some h⟩
theorem rowOf_none {l : List PTr} {pid : Int} (h : rowOf l pid = none) : ∀ t ∈ l, t.pid ≠ pid := by
  unfold rowOf at h
  simpa using h

theorem TRight.nil : TRight [] := ⟨by simp, List.Pairwise.nil⟩
theorem TRight.tail {x : PTr} {l : List PTr} (h : TRight (x :: l)) : TRight l :=
  ⟨fun t ht => h.all t (List.mem_cons_of_mem _ ht), (List.pairwise_cons.1 h.asc).2⟩

theorem TRight.one {l : List PTr} (h : TRight l) {s t : PTr} (hs : s ∈ l) (ht : t ∈ l) (e : s.pid = t.pid) : s = t := by
  induction l with
  | nil => cases hs
  | cons x l ih =>
    obtain ⟨h1, _⟩ := List.pairwise_cons.1 h.asc
    rcases List.mem_cons.1 hs with rfl | hs'
    · rcases List.mem_cons.1 ht with rfl | ht'
      · rfl
      · have := h1 t ht'; omega
    · rcases List.mem_cons.1 ht with rfl | ht'
      · have := h1 s hs'; omega
      · exact ih h.tail hs' ht'

theorem TRight.rowOf {l : List PTr} (h : TRight l) {t : PTr} (ht : t ∈ l) : rowOf l t.pid = some t := by
  cases hr : Go.Proofs.YtbnefpdjcbegpaaGreatDoor.rowOf l t.pid with
  | none => exact absurd rfl (rowOf_none hr t ht)
  | some s =>
    obtain ⟨h1, h2⟩ := rowOf_mem hr
    rw [h.one h1 ht h2]

theorem insTr_mem {l : List PTr} {t x : PTr} : x ∈ insTr l t ↔ x = t ∨ x ∈ l := by
  induction l with
  | nil => simp [insTr]
  | cons y l ih =>
    rw [insTr]
    split
    · rw [List.mem_cons, ih, List.mem_cons]
      constructor
      · rintro (h | h | h)
        · exact .inr (.inl h)
        · exact .inl h
        · exact .inr (.inr h)
      · rintro (h | h | h)
        · exact .inr (.inl h)
        · exact .inl h
        · exact .inr (.inr h)
    · rw [List.mem_cons]

theorem insTr_right {l : List PTr} {t : PTr} (h : TRight l) (hn : rowOf l t.pid = none) (ht : (1 ≤ t.pid ∧ t.pid ≤ 8) ∧ 1 ≤ t.epoch ∧ t.epoch ≤ 1099511627776) : TRight (insTr l t) := by
  refine ⟨fun x hx => ?_, ?_⟩
  · rcases insTr_mem.1 hx with rfl | hx
    · exact ht
    · exact h.all x hx
  · have hne := rowOf_none hn
    clear hn ht
    induction l with
    | nil => simp [insTr]
    | cons y l ih =>
      obtain ⟨h1, h2⟩ := List.pairwise_cons.1 h.asc
      rw [insTr]
      split
      · rename_i hlt
        refine List.pairwise_cons.2 ⟨fun x hx => ?_, ih h.tail (fun x hx => hne x (List.mem_cons_of_mem _ hx))⟩
        rcases insTr_mem.1 hx with rfl | hx
        · exact hlt
        · exact h1 x hx
      · rename_i hlt
        have h3 := hne y (List.mem_cons_self ..)
        refine List.pairwise_cons.2 ⟨fun x hx => ?_, h.asc⟩
        rcases List.mem_cons.1 hx with rfl | hx
        · omega
        · have := h1 x hx; omega

theorem setTr_right {l : List PTr} {t : PTr} (h : TRight l) (ht : (1 ≤ t.pid ∧ t.pid ≤ 8) ∧ 1 ≤ t.epoch ∧ t.epoch ≤ 1099511627776) : TRight (setTr l t) := by
  refine ⟨fun x hx => ?_, ?_⟩
  · unfold setTr at hx
    obtain ⟨y, hy, rfl⟩ := List.mem_map.1 hx
    split
    · exact ht
    · exact h.all y hy
  · unfold setTr
    rw [List.pairwise_map]
    refine h.asc.imp ?_
    intro a b hab
    split <;> split <;> omega

theorem rowOf_ins {l : List PTr} {t : PTr} (h : TRight l) (hn : rowOf l t.pid = none) (pid : Int) : rowOf (insTr l t) pid = if pid = t.pid then some t else rowOf l pid := by
  have hne := rowOf_none hn
  clear hn
  induction l with
  | nil =>
    unfold rowOf insTr
    rw [List.find?_cons]
    split
    · rename_i h1
      have h1 : t.pid = pid := by simpa using h1
      rw [if_pos h1.symm]
    · rename_i h1
      have h1 : t.pid ≠ pid := by simpa using h1
      rw [if_neg (fun e => h1 e.symm)]
  | cons y l ih =>
    have h3 := hne y (List.mem_cons_self ..)
    have ih := ih h.tail (fun x hx => hne x (List.mem_cons_of_mem _ hx))
    rw [insTr]
    split
    · unfold rowOf at ih ⊢
      rw [List.find?_cons, List.find?_cons]
      split
      · rename_i h1
        have h1 : y.pid = pid := by simpa using h1
        rw [if_neg (by rw [← h1]; exact h3)]
      · exact ih
    · unfold rowOf
      rw [List.find?_cons]
      split
      · rename_i h1
        have h1 : t.pid = pid := by simpa using h1
        rw [if_pos h1.symm]
      · rename_i h1
        have h1 : t.pid ≠ pid := by simpa using h1
        rw [if_neg (fun e => h1 e.symm)]

theorem rowOf_set {l : List PTr} {t : PTr} {s : PTr} (hs : rowOf l t.pid = some s) (pid : Int) : rowOf (setTr l t) pid = if pid = t.pid then some t else rowOf l pid := by
  induction l with
  | nil => cases hs
  | cons y l ih =>
    unfold setTr
    rw [List.map_cons]
    by_cases hy : y.pid = t.pid
    · rw [if_pos hy]
      unfold rowOf
      rw [List.find?_cons]
      split
      · rename_i h1
        have h1 : t.pid = pid := by simpa using h1
        rw [if_pos h1.symm]
      · rename_i h1
        have h1 : t.pid ≠ pid := by simpa using h1
        rw [if_neg (fun e => h1 e.symm), List.find?_cons]
        have h2 : (y.pid == pid) = false := by simp; omega
        rw [h2]
        dsimp only
        -- the others
        have key : ∀ m : List PTr, (m.map fun x => if x.pid = t.pid then t else x).find? (fun x => x.pid == pid) = m.find? (fun x => x.pid == pid) := by
          intro m
          induction m with
          | nil => rfl
          | cons z m ih2 =>
            rw [List.map_cons]
            by_cases hz : z.pid = t.pid
            · rw [if_pos hz, List.find?_cons_of_neg (by simpa using h1), List.find?_cons_of_neg (by simp; omega), ih2]
            · rw [if_neg hz, List.find?_cons, List.find?_cons, ih2]
        exact key l
    · rw [if_neg hy]
      have hs' : rowOf l t.pid = some s := by
        unfold rowOf at hs ⊢
        rw [List.find?_cons] at hs
        have h2 : (y.pid == t.pid) = false := by simpa using hy
        rw [h2] at hs
        exact hs
      have ih := ih hs'
      unfold rowOf setTr at ih
      unfold rowOf
      rw [List.find?_cons, List.find?_cons, ih]
      split
      · rename_i h1
        have h1 : y.pid = pid := by simpa using h1
        rw [if_neg (by omega)]
      · rfl

/-- What a note that fits makes of the rows. -/
structure Folded (l l1 : List PTr) (n : TNote) : Prop where
  right : TRight l1
  other : ∀ pid, pid ≠ n.pid → rowOf l1 pid = rowOf l pid
  own : (rowOf l n.pid = none ∧ n.kind = 1 ∧ rowOf l1 n.pid = some ⟨n.pid, 1, 1, 0, 0⟩) ∨ ∃ t u, rowOf l n.pid = some t ∧ t.turn n = some u ∧ u.epoch ≤ 1099511627776 ∧ rowOf l1 n.pid = some u
  ok : n.ok

theorem turn_pid {t u : PTr} {n : TNote} (h : t.turn n = some u) : u.pid = t.pid ∧ t.epoch ≤ u.epoch ∧ u.epoch ≤ t.epoch + 1 := by
  unfold PTr.turn at h
  repeat' split at h
  all_goals first | cases h; done | (injection h with h; subst h; refine ⟨rfl, ?_, ?_⟩ <;> dsimp only <;> omega)

theorem foldT_ok {l l1 : List PTr} {n : TNote} (hl : TRight l) (h : foldT l n = (l1, 0)) : Folded l l1 n := by
  unfold foldT at h
  split at h
  · simp at h
  · rename_i hn
    have hn := Classical.not_not.1 hn
    split at h
    · rename_i hr
      split at h
      · rename_i hk
        simp only [Prod.mk.injEq, and_true] at h
        subst h
        have hr' : rowOf l (PTr.mk n.pid 1 1 0 0).pid = none := hr
        refine ⟨insTr_right hl hr' ⟨hn.1, (by decide : (1 : Int) ≤ 1), (by decide : (1 : Int) ≤ 1099511627776)⟩, fun pid hp => ?_, .inl ⟨hr, hk, ?_⟩, hn⟩
        · rw [rowOf_ins hl hr', if_neg hp]
        · rw [rowOf_ins hl hr', if_pos rfl]
      · simp at h
    · rename_i t hr
      split at h
      · simp at h
      · rename_i u hu
        split at h
        · simp at h
        · rename_i hmax
          simp only [Prod.mk.injEq, and_true] at h
          subst h
          obtain ⟨e1, e2⟩ := turn_pid hu
          obtain ⟨m1, m2⟩ := rowOf_mem hr
          have e3 : u.pid = n.pid := e1.trans m2
          have hr' : rowOf l u.pid = some t := by rw [e3]; exact hr
          have ha := hl.all t m1
          refine ⟨setTr_right hl ⟨by rw [e1]; exact ha.1, by omega, by omega⟩, fun pid hp => ?_, .inr ⟨t, u, hr, hu, by omega, ?_⟩, hn⟩
          · rw [rowOf_set hr', if_neg (by rw [e3]; exact hp)]
          · rw [rowOf_set hr', if_pos e3.symm]

theorem TRight.len {l : List PTr} (h : TRight l) : l.length ≤ 8 := by
  have key : ∀ (l : List PTr) (a : Int), (∀ t ∈ l, a ≤ t.pid ∧ t.pid ≤ 8) → l.Pairwise (fun s t => s.pid < t.pid) → (l.length : Int) ≤ max 0 (9 - a) := by
    intro l
    induction l with
    | nil => intro a _ _; simp; omega
    | cons x l ih =>
      intro a ha hp
      obtain ⟨h1, h2⟩ := List.pairwise_cons.1 hp
      have hx := ha x (List.mem_cons_self ..)
      have := ih (x.pid + 1) (fun t ht => by have := h1 t ht; have := ha t (List.mem_cons_of_mem _ ht); omega) h2
      rw [List.length_cons]
      omega
  have := key l 1 (fun t ht => (h.all t ht).1) h.asc
  omega

theorem foldT_code (l : List PTr) (n : TNote) : ∃ c, (foldT l n).2 = c ∧ (c = 0 ∨ c = 1 ∨ c = 3 ∨ c = 6 ∨ c = 9) := by
  refine ⟨_, rfl, ?_⟩
  unfold foldT
  split
  · exact .inr (.inl rfl)
  · split
    · split
      · exact .inl rfl
      · exact .inr (.inr (.inl rfl))
    · split
      · exact .inr (.inr (.inr (.inr rfl)))
      · split
        · exact .inr (.inr (.inr (.inl rfl)))
        · exact .inl rfl
end Go.Proofs.YtbnefpdjcbegpaaGreatDoor

namespace Go.Proofs.YtbnefpdjcbegpaaGreatDoor
open Go.RowKit

theorem insTr_at : ∀ {l : List PTr} {t : PTr} {i : Nat}, i ≤ l.length → (∀ x ∈ l.take i, x.pid < t.pid) → (∀ x ∈ l.drop i, t.pid ≤ x.pid) → insTr l t = l.take i ++ t :: l.drop i
  | [], t, i, _, _, _ => by simp [insTr]
  | y :: l, t, 0, _, _, h2 => by
    have := h2 y (by simp)
    rw [insTr, if_neg (by omega)]
    rfl
  | y :: l, t, i + 1, hi, h1, h2 => by
    have h3 := h1 y (by simp)
    rw [insTr, if_pos h3, insTr_at (i := i) (by simpa using hi) (fun x hx => h1 x (by simp [hx])) (fun x hx => h2 x (by simpa using hx))]
    rfl

theorem setTr_at {l : List PTr} (hl : TRight l) {i : Nat} {s t : PTr} (hs : l[i]? = some s) (e : s.pid = t.pid) : setTr l t = l.set i t := by
  unfold setTr
  induction l generalizing i with
  | nil => simp at hs
  | cons y l ih =>
    obtain ⟨h1, _⟩ := List.pairwise_cons.1 hl.asc
    cases i with
    | zero =>
      simp only [List.getElem?_cons_zero, Option.some.injEq] at hs
      subst hs
      rw [List.map_cons, if_pos e, List.set_cons_zero]
      congr 1
      have key : ∀ m : List PTr, (∀ x ∈ m, t.pid < x.pid) → m.map (fun x => if x.pid = t.pid then t else x) = m := by
        intro m hm
        induction m with
        | nil => rfl
        | cons z m ih2 =>
          have := hm z (List.mem_cons_self ..)
          rw [List.map_cons, if_neg (by omega), ih2 (fun x hx => hm x (List.mem_cons_of_mem _ hx))]
      exact key l (fun x hx => by have := h1 x hx; omega)
    | succ i =>
      simp only [List.getElem?_cons_succ] at hs
      have h2 := h1 s (List.mem_of_getElem? hs)
      rw [List.map_cons, if_neg (by omega), List.set_cons_succ, ih hl.tail hs]

theorem rowOf_at {l : List PTr} (hl : TRight l) {i : Nat} {s : PTr} (hs : l[i]? = some s) : rowOf l s.pid = some s := hl.rowOf (List.mem_of_getElem? hs)

/-- Where a producer's row is to stand. -/
structure Stand (l : List PTr) (pid : Int) (i : Nat) : Prop where
  le : i ≤ l.length
  pre : ∀ x ∈ l.take i, x.pid < pid
  post : ∀ x ∈ l.drop i, pid ≤ x.pid

theorem Stand.is {l : List PTr} (hl : TRight l) {pid : Int} {i : Nat} (h : Stand l pid i) {s : PTr} (hs : rowOf l pid = some s) : l[i]? = some s := by
  obtain ⟨h1, h2⟩ := rowOf_mem hs
  obtain ⟨j, hj⟩ := List.getElem?_of_mem h1
  have hjl := (List.getElem?_eq_some_iff.1 hj).1
  rcases Nat.lt_trichotomy j i with h3 | h3 | h3
  · have := h.pre s (List.mem_of_getElem? (i := j) (by rw [List.getElem?_take_of_lt h3]; exact hj))
    omega
  · rw [← h3]; exact hj
  · -- a row stands between
    have hil : i < l.length := by omega
    obtain ⟨y, hy⟩ : ∃ y, l[i]? = some y := ⟨_, List.getElem?_eq_getElem hil⟩
    have h4 := h.post y (List.mem_of_getElem? (i := 0) (by rw [List.getElem?_drop]; exact hy))
    have h5 : y.pid < s.pid := by
      have h6 := hl.asc
      rw [List.pairwise_iff_getElem] at h6
      have h7 := h6 i j hil hjl h3
      have e1 : l[i] = y := (List.getElem?_eq_some_iff.1 hy).2
      have e2 : l[j] = s := (List.getElem?_eq_some_iff.1 hj).2
      rw [e1, e2] at h7
      exact h7
    omega

theorem Stand.isnt {l : List PTr} {pid : Int} {i : Nat} (_ : Stand l pid i) (hs : rowOf l pid = none) : ∀ s, l[i]? = some s → s.pid ≠ pid := fun s h1 => rowOf_none hs s (List.mem_of_getElem? h1)

def rowZ (s : List PTr) (pid : Int) : PTr := (rowOf s pid).getD ⟨0, 0, 0, 0, 0⟩
/-- Why a producer's row is not told. -/
def rowC (s : List PTr) (pid : Int) : Int := match rowOf s pid with | none => 3 | some _ => 0

theorem rowOf_first {l : List PTr} {k : Nat} {x : PTr} {pid : Int} (h : ∀ y ∈ l.take k, y.pid ≠ pid) (hx : l[k]? = some x) (e : x.pid = pid) : rowOf l pid = some x := by
  have hk := (List.getElem?_eq_some_iff.1 hx).1
  have hs : l = l.take k ++ x :: l.drop (k + 1) := by
    rw [← (List.getElem?_eq_some_iff.1 hx).2, List.getElem_cons_drop, List.take_append_drop]
  unfold rowOf
  rw [hs, List.find?_append]
  have h1 : (l.take k).find? (fun t => t.pid == pid) = none := by
    rw [List.find?_eq_none]
    intro y hy
    simpa using h y hy
  rw [h1, List.find?_cons]
  have h2 : (x.pid == pid) = true := by simpa using e
  rw [h2]
  rfl

theorem rowOf_no {l : List PTr} {pid : Int} (h : ∀ y ∈ l, y.pid ≠ pid) : rowOf l pid = none := by
  unfold rowOf
  rw [List.find?_eq_none]
  intro y hy
  simpa using h y hy

def PTr.val (t : PTr) : Value := .agg #[.int .i64 t.pid, .int .i64 t.epoch, .int .i64 t.state, .int .i64 t.parts, .int .i64 t.last]
def PTr.cells (t : PTr) : List Value := [.int .i64 t.pid, .int .i64 t.epoch, .int .i64 t.state, .int .i64 t.parts, .int .i64 t.last]
def trCells (l : List PTr) : List Value := l.flatMap PTr.cells

theorem trCells_app (a b : List PTr) : trCells (a ++ b) = trCells a ++ trCells b := by unfold trCells; rw [List.flatMap_append]
theorem trCells_len (l : List PTr) : (trCells l).length = l.length * 5 := by
  induction l with
  | nil => rfl
  | cons x l ih => unfold trCells at ih ⊢; rw [List.flatMap_cons, List.length_append, ih]; simp [PTr.cells]; omega
theorem tr_one (l : List PTr) : ∀ u ∈ trCells l, u.oneCell' = true := by
  intro u hu
  unfold trCells at hu
  obtain ⟨x, _, hx⟩ := List.mem_flatMap.1 hu
  simp only [PTr.cells, List.mem_cons, List.not_mem_nil, or_false] at hx
  rcases hx with rfl | rfl | rfl | rfl | rfl <;> rfl

theorem trCells_at : ∀ (q : List PTr) (i : Nat) (x : PTr), q[i]? = some x → (trCells q)[i * 5]? = some (.int .i64 x.pid) ∧ (trCells q)[i * 5 + 1]? = some (.int .i64 x.epoch) ∧ (trCells q)[i * 5 + 2]? = some (.int .i64 x.state) ∧ (trCells q)[i * 5 + 3]? = some (.int .i64 x.parts) ∧ (trCells q)[i * 5 + 4]? = some (.int .i64 x.last)
  | [], _, _, h => by simp at h
  | y :: q, 0, x, h => by
    simp only [List.getElem?_cons_zero, Option.some.injEq] at h
    subst h
    exact ⟨rfl, rfl, rfl, rfl, rfl⟩
  | y :: q, i + 1, x, h => by
    have := trCells_at q i x (by simpa using h)
    have e : trCells (y :: q) = y.cells ++ trCells q := rfl
    have e2 : y.cells.length = 5 := rfl
    have key : ∀ r, (trCells (y :: q))[(i + 1) * 5 + r]? = (trCells q)[i * 5 + r]? := by
      intro r
      rw [e, List.getElem?_append_right (by omega), e2, show (i + 1) * 5 + r - 5 = i * 5 + r from by omega]
    exact ⟨(key 0).trans this.1, (key 1).trans this.2.1, (key 2).trans this.2.2.1, (key 3).trans this.2.2.2.1, (key 4).trans this.2.2.2.2⟩

theorem trCells_set : ∀ (l : List PTr) (i : Nat) (x : PTr), i < l.length → trCells (l.set i x) = (((((trCells l).set (i * 5) (.int .i64 x.pid)).set (i * 5 + 1) (.int .i64 x.epoch)).set (i * 5 + 2) (.int .i64 x.state)).set (i * 5 + 3) (.int .i64 x.parts)).set (i * 5 + 4) (.int .i64 x.last)
  | [], i, x, h => by simp at h
  | y :: l, 0, x, _ => by simp [trCells, PTr.cells]
  | y :: l, i + 1, x, h => by
    have ih := trCells_set l i x (by simpa using h)
    have e : trCells (y :: l) = y.cells ++ trCells l := rfl
    have e2 : y.cells.length = 5 := rfl
    have e3 : trCells ((y :: l).set (i + 1) x) = y.cells ++ trCells (l.set i x) := rfl
    rw [e3, ih, e]
    have key : ∀ (m : List Value) (r : Nat) (v : Value), (y.cells ++ m).set ((i + 1) * 5 + r) v = y.cells ++ m.set (i * 5 + r) v := by
      intro m r v
      rw [List.set_append_right _ _ (by omega), e2, show (i + 1) * 5 + r - 5 = i * 5 + r from by omega]
    have k0 := key (trCells l) 0 (.int .i64 x.pid)
    simp only [Nat.add_zero] at k0
    rw [k0, key, key, key, key]
end Go.Proofs.YtbnefpdjcbegpaaGreatDoor

namespace Go.Proofs.YtbnefpdjcbegpaaGreatDoor
open Go.RowKit

def TNote.text (n : TNote) : List UInt8 := putAllL n.nums

theorem TNote.ok.nums_in {n : TNote} (h : n.ok) : ∀ x ∈ n.nums, 0 ≤ x ∧ x ≤ 8192 := by
  obtain ⟨h1, h2, h3, h4⟩ := h
  intro x hx
  simp only [TNote.nums, List.mem_cons, List.not_mem_nil, or_false] at hx
  by_cases hk : n.kind = 2
  · have := h3 hk
    rcases hx with rfl | rfl | rfl <;> omega
  · have := h4 hk
    rcases hx with rfl | rfl | rfl <;> omega

theorem takeAllL_of : ∀ (xs : List Int) (t : List UInt8), (∀ x ∈ xs, -9223372036854775808 ≤ x ∧ x ≤ 9223372036854775807) → takeAllL xs.length (putAllL xs ++ t) = some (xs, t)
  | [], t, _ => rfl
  | x :: xs, t, h => by
    have hx := h x (by simp)
    have e : putAllL (x :: xs) ++ t = putL x ++ (putAllL xs ++ t) := by simp [putAllL]
    rw [e, List.length_cons, takeAllL, takeL_put hx.1 hx.2]
    dsimp only
    rw [takeAllL_of xs t (fun y hy => h y (by simp [hy]))]
    dsimp only
    rw [unzig_zig]

/-- The note that a text is. -/
def tnoteOf (t : List UInt8) : Option TNote := match takeAllL 3 t with
  | some ([k, a, b], []) => if (TNote.mk k a b).ok then some ⟨k, a, b⟩ else none
  | _ => none

theorem tnoteOf_text {n : TNote} (h : n.ok) : tnoteOf n.text = some n := by
  have h1 := takeAllL_of n.nums [] (fun x hx => by have := h.nums_in x hx; omega)
  rw [List.append_nil] at h1
  unfold tnoteOf TNote.text
  have h2 : takeAllL 3 (putAllL n.nums) = some (n.nums, []) := h1
  rw [h2]
  show (if (TNote.mk n.kind n.pid n.parts).ok then _ else _) = _
  rw [if_pos (show (TNote.mk n.kind n.pid n.parts).ok from h)]

theorem tnoteOf_some {t : List UInt8} {n : TNote} (h : tnoteOf t = some n) : takeAllL 3 t = some ([n.kind, n.pid, n.parts], []) ∧ n.ok := by
  unfold tnoteOf at h
  split at h
  · rename_i k a b he
    split at h
    · rename_i hok
      simp only [Option.some.injEq] at h
      subst h
      exact ⟨he, hok⟩
    · cases h
  · cases h
end Go.Proofs.YtbnefpdjcbegpaaGreatDoor

namespace Go.Proofs.YtbnefpdjcbegpaaGreatDoor
open Go.RowKit

theorem Tryz.infoCloneTr : (Tryz.prog.info? 28).map (fun i => (i.zero, i.size, i.bytes)) = some (some (.agg #[.int .i64 0, .int .i64 0, .int .i64 0, .int .i64 0, .int .i64 0]), 5, 40) := by kernel_rfl

set_option maxHeartbeats 1000000 in
theorem cloneTr_any {base n : Nat} {v : Value} {xs : List Value} {w : World} (h : w.ownsRow base 28 5 v n xs) (h1 : ∀ u ∈ xs, u.oneCell' = true) (hn : n ≤ 1000000) :
    Calls Tryz.prog 31 #[v] w fun e w' => ∃ v', e = .returned v' ∧ w'.ownsRow w.heap.size 28 5 v' n xs ∧ Below w.heap.size w w' := by
  have q22 : ∀ (w : World) (a : Option Addr) (n c n' c' : Nat), (binOp .eql 31 (.slice a n c) (.slice none n' c')).run Tryz.prog w = .ok (.bool a.isNone) w := fun w a n c n' c' => Lib.run_eql_slice_nil w _ _ a n c n' c' Tryz.underlying31
  obtain ⟨i0, hi, hz0, hz1, hz2⟩ := info_parts Tryz.infoCloneTr
  rcases Joins.ownsRow_forms h with ⟨rfl, hz⟩ | ⟨g, cap, rfl⟩
  · subst hz
    have hx : xs = [] := by have := h.1; simpa using this
    subst hx
    clear h h1
    go_enter Tryz.func31, Tryz.ntmps31
    go_wp2_with fail
    go_ret
    exact ⟨_, rfl, World.ownsRow_nil _ _ _ _, Below.refl _ _⟩
  · have H := hid h
    have H1 := hid h1
    clear h h1
    go_enter Tryz.func31, Tryz.ntmps31
    go_wp2_with (at_builtin; refine wpList_append_own _ rfl _ _ 31 rfl w.heap.size 28 i0 _ 5 40 Tryz.underlying31 hi hz0 hz1 hz2 rfl (by omega) _ _ _ rfl (World.ownsRow_made w #[] 0 (Nat.le_refl _) (Nat.zero_le _) (by simp)) ⟨g, 0, none⟩ n cap xs rfl ?qc1 ?qc2 ?qc3 ?qc4 ?qc5 ?qc6 ?_)
    case qc1 => exact H.out.1
    case qc2 =>
      intro j u hj
      have hlt := (List.getElem?_eq_some_iff.1 hj).1
      rw [Addr.add_lit, Nat.zero_add]
      refine Lib.cell?_alloc_some _ ?_
      rw [H.out.cellAt j (by rw [← H.out.1]; exact hlt)]; exact hj
    case qc3 => exact H1.out
    case qc4 => unfold maxLen; omega
    case qc5 => omega
    case qc6 => simp
    intro v' w1 hown hgrow hnil
    have HO := hid hown
    have HG := hid hgrow
    clear hown hgrow hnil
    go_wp2_with fail
    go_ret
    refine ⟨v', rfl, HO.out, ?_⟩
    exact ((Below.refl _ w).alloc (Nat.le_refl _) _).grown HG.out (by simp) (by intro k hk; simp [Value.ownBlock] at hk; omega)
end Go.Proofs.YtbnefpdjcbegpaaGreatDoor

namespace Go.Proofs.YtbnefpdjcbegpaaGreatDoor
open Go.RowKit

theorem txProducer (p : Int) (q : Bool) (w : World) (hq : decide (1 ≤ p ∧ p ≤ 8) = q) : Calls Tryz.prog 52 #[.int .i64 p] w fun e w' => e = .returned (.bool q) ∧ w = w' := by
  subst hq
  by_cases h1 : 1 ≤ p
  · by_cases h2 : p ≤ 8
    · have hd : decide (1 ≤ p ∧ p ≤ 8) = true := decide_eq_true ⟨h1, h2⟩
      rw [hd]
      have hd1 : decide (1 ≤ p) = true := decide_eq_true h1
      have hd2 : decide (p ≤ 8) = true := decide_eq_true h2
      go_enter Tryz.func52, Tryz.ntmps52
      go_wp2_with fail
      go_ret
      exact ⟨rfl, rfl⟩
    · have hd : decide (1 ≤ p ∧ p ≤ 8) = false := decide_eq_false (fun h => h2 h.2)
      rw [hd]
      have hd1 : decide (1 ≤ p) = true := decide_eq_true h1
      have hd2 : decide (p ≤ 8) = false := decide_eq_false h2
      go_enter Tryz.func52, Tryz.ntmps52
      go_wp2_with fail
      go_ret
      exact ⟨rfl, rfl⟩
  · have hd : decide (1 ≤ p ∧ p ≤ 8) = false := decide_eq_false (fun h => h1 h.1)
    rw [hd]
    have hd1 : decide (1 ≤ p) = false := decide_eq_false h1
    go_enter Tryz.func52, Tryz.ntmps52
    go_wp2_with fail
    go_ret
    exact ⟨rfl, rfl⟩

def TNote.val (n : TNote) : Value := .agg #[.int .i64 n.kind, .int .i64 n.pid, .int .i64 n.parts]

/-- What Check tells. -/
def TNote.code (n : TNote) : Int := if n.ok then 0 else 1

set_option maxHeartbeats 2000000 in
theorem txCheck (n : TNote) (w : World) : Calls Tryz.prog 32 #[n.val] w fun e w' => e = .returned (.int .i64 n.code) ∧ Below w.heap.size w w' := by
  obtain ⟨c, hc⟩ : ∃ c, n.code = c := ⟨_, rfl⟩
  rw [hc]
  have HC := hid hc
  clear hc
  obtain ⟨kind, pid, parts⟩ := n
  unfold TNote.val
  dsimp only
  have HB := hid (bel_alloc (Below.refl w.heap.size w) (.cells #[.int .i64 kind, .int .i64 pid, .int .i64 parts] 68))
  have hno : ¬ (TNote.mk kind pid parts).ok → c = 1 := fun h => by rw [← HC.out]; exact if_neg h
  have hyes : (TNote.mk kind pid parts).ok → c = 0 := fun h => by rw [← HC.out]; exact if_pos h
  have HNO := hid hno
  have HYES := hid hyes
  clear hno hyes HC
  by_cases hp : 1 ≤ pid ∧ pid ≤ 8
  · have HP := hid hp
    clear hp
    by_cases hk1 : kind < 1
    · obtain rfl := HNO.out (fun h => by have := h.2.1.1; dsimp only at this; omega)
      have hd1 : decide (kind < 1) = true := decide_eq_true hk1
      have hd0 : decide (kind = 2) = false := decide_eq_false (by omega)
      go_enter Tryz.func32, Tryz.ntmps32
      go_wp2_with fail
      refine (txProducer pid true _ (decide_eq_true HP.out)).mono ?_
      rintro e w' ⟨rfl, rfl⟩
      go_wp2_with fail
      go_ret
      exact ⟨rfl, HB.out⟩
    · have hd1 : decide (kind < 1) = false := decide_eq_false hk1
      by_cases hk2 : 5 < kind
      · obtain rfl := HNO.out (fun h => by have := h.2.1.2; dsimp only at this; omega)
        have hd2 : decide (5 < kind) = true := decide_eq_true hk2
        have hd0 : decide (kind = 2) = false := decide_eq_false (by omega)
        go_enter Tryz.func32, Tryz.ntmps32
        go_wp2_with fail
        refine (txProducer pid true _ (decide_eq_true HP.out)).mono ?_
        rintro e w' ⟨rfl, rfl⟩
        go_wp2_with fail
        go_ret
        exact ⟨rfl, HB.out⟩
      · have hd2 : decide (5 < kind) = false := decide_eq_false hk2
        by_cases hk : kind = 2
        · subst hk
          clear hk1 hk2 hd1 hd2
          by_cases h1 : parts < 1
          · obtain rfl := HNO.out (fun h => by have := (h.2.2.1 rfl).1; dsimp only at this; omega)
            have hd3 : decide (parts < 1) = true := decide_eq_true h1
            go_enter Tryz.func32, Tryz.ntmps32
            go_wp2_with fail
            refine (txProducer pid true _ (decide_eq_true HP.out)).mono ?_
            rintro e w' ⟨rfl, rfl⟩
            go_wp2_with fail
            go_ret
            exact ⟨rfl, HB.out⟩
          · have hd3 : decide (parts < 1) = false := decide_eq_false h1
            by_cases h2 : 8192 ≤ parts
            · obtain rfl := HNO.out (fun h => by have := (h.2.2.1 rfl).2; dsimp only at this; omega)
              have hd4 : decide (8192 ≤ parts) = true := decide_eq_true h2
              go_enter Tryz.func32, Tryz.ntmps32
              go_wp2_with fail
              refine (txProducer pid true _ (decide_eq_true HP.out)).mono ?_
              rintro e w' ⟨rfl, rfl⟩
              go_wp2_with fail
              go_ret
              exact ⟨rfl, HB.out⟩
            · obtain rfl := HYES.out ⟨HP.out, ⟨(by decide : (1 : Int) ≤ 2), (by decide : (2 : Int) ≤ 5)⟩, fun _ => ⟨by dsimp only; omega, by dsimp only; omega⟩, fun h => absurd rfl h⟩
              have hd4 : decide (8192 ≤ parts) = false := decide_eq_false h2
              go_enter Tryz.func32, Tryz.ntmps32
              go_wp2_with fail
              refine (txProducer pid true _ (decide_eq_true HP.out)).mono ?_
              rintro e w' ⟨rfl, rfl⟩
              go_wp2_with fail
              go_ret
              exact ⟨rfl, HB.out⟩
        · have hd0 : decide (kind = 2) = false := decide_eq_false hk
          have hkb : (kind == 2) = false := by simpa using hk
          by_cases h0 : parts = 0
          · obtain rfl := HYES.out ⟨HP.out, ⟨by dsimp only; omega, by dsimp only; omega⟩, fun h => absurd h hk, fun _ => h0⟩
            subst h0
            go_enter Tryz.func32, Tryz.ntmps32
            go_wp2_with fail
            refine (txProducer pid true _ (decide_eq_true HP.out)).mono ?_
            rintro e w' ⟨rfl, rfl⟩
            go_wp2_with fail
            go_ret
            exact ⟨rfl, HB.out⟩
          · obtain rfl := HNO.out (fun h => h0 (h.2.2.2 hk))
            have hd5 : decide (parts = 0) = false := decide_eq_false h0
            have hz5 : (parts != 0) = true := by simpa using h0
            go_enter Tryz.func32, Tryz.ntmps32
            go_wp2_with fail
            refine (txProducer pid true _ (decide_eq_true HP.out)).mono ?_
            rintro e w' ⟨rfl, rfl⟩
            go_wp2_with fail
            go_ret
            exact ⟨rfl, HB.out⟩
  · obtain rfl := HNO.out (fun h => hp h.1)
    have HP := hid hp
    clear hp
    go_enter Tryz.func32, Tryz.ntmps32
    go_wp2_with fail
    refine (txProducer pid false _ (decide_eq_false HP.out)).mono ?_
    rintro e w' ⟨rfl, rfl⟩
    go_wp2_with fail
    go_ret
    exact ⟨rfl, HB.out⟩

theorem txCheck_yes {n : TNote} (h : n.ok) (w : World) : Calls Tryz.prog 32 #[n.val] w fun e w' => e = .returned (.int .i64 0) ∧ Below w.heap.size w w' := by
  have h1 := txCheck n w
  have h2 : n.code = 0 := if_pos h
  rw [h2] at h1
  exact h1

set_option maxHeartbeats 1000000 in
theorem txEncode {n : TNote} (h : n.ok) (w : World) : Calls Tryz.prog 54 #[n.val] w fun e w' => e = .returned (.tuple #[.string (bs n.text), .int .i64 0]) ∧ Below w.heap.size w w' := by
  have hin := h.nums_in
  have HIN := hid hin
  have HCK := hid (fun W => txCheck_yes h W)
  have HPUT : Hid (∀ W B, Blk W B #[.int .i64 n.kind, .int .i64 n.pid, .int .i64 n.parts] 3 → Calls Tryz.prog 74 #[.slice (some ⟨B, 0, none⟩) 3 3] W fun e w' => e = .returned (.string (bs n.text)) ∧ Below W.heap.size W w') := hid (fun W B hB =>
    putAll_any B 3 n.nums W (by simp [TNote.nums]) (fun x hx => by have := HIN.out x hx; omega) (by
      intro i hi9
      have h9 : i < 3 := hi9
      match i, h9 with
      | 0, _ => exact hB.cell rfl
      | 1, _ => exact hB.cell rfl
      | 2, _ => exact hB.cell rfl))
  clear hin h
  have hba : Below w.heap.size w (w.alloc (.cells #[.int .i64 n.kind, .int .i64 n.pid, .int .i64 n.parts] 68)) := bel_alloc (Below.refl w.heap.size w) _
  have hbk := Blk.new w #[.int .i64 n.kind, .int .i64 n.pid, .int .i64 n.parts] 68
  have HBA := hid hba
  have HBK := hid hbk
  clear hba hbk
  unfold TNote.val at HCK ⊢
  go_enter Tryz.func54, Tryz.ntmps54
  go_wp2_with fail
  refine (HCK.out _).mono ?_
  rintro e w1 ⟨rfl, hb1⟩
  have HB1 := hid (HBA.out.trans (hb1.mono HBA.out.size))
  have HBK1 := hid (HBK.out.below' hb1)
  have c0 := HBK1.out.cell (i := 0) (v := .int .i64 n.kind) rfl
  have c1 := HBK1.out.cell (i := 1) (v := .int .i64 n.pid) rfl
  have c2 := HBK1.out.cell (i := 2) (v := .int .i64 n.parts) rfl
  clear hb1
  go_wp2_with fail
  refine (HPUT.out _ _ (Blk.new w1 _ _)).mono ?_
  rintro e w2 ⟨rfl, hb2⟩
  have HB2 := hid (bel_next (bel_alloc HB1.out _) hb2)
  clear hb2
  go_wp2_with fail
  go_ret2
  exact ⟨rfl, HB2.out⟩
end Go.Proofs.YtbnefpdjcbegpaaGreatDoor

namespace Go.Proofs.YtbnefpdjcbegpaaGreatDoor
open Go.RowKit

theorem trReads {w : World} {ad : Option Addr} {n cap : Nat} {l : List PTr} (h : Reads w (.slice ad n cap) l.length 5 (trCells l)) {k : Nat} {x : PTr} (hx : l[k]? = some x) :
    ∃ g, ad = some ⟨g, 0, none⟩ ∧ w.cell? ⟨g, k * 5, none⟩ = some (.int .i64 x.pid) ∧ w.cell? ⟨g, k * 5 + 1, none⟩ = some (.int .i64 x.epoch) ∧ w.cell? ⟨g, k * 5 + 2, none⟩ = some (.int .i64 x.state) ∧ w.cell? ⟨g, k * 5 + 3, none⟩ = some (.int .i64 x.parts) ∧ w.cell? ⟨g, k * 5 + 4, none⟩ = some (.int .i64 x.last) := by
  obtain ⟨_, ad', cap', e, h2⟩ := h
  injection e with e _ _
  subst e
  obtain ⟨e0, e1, e2, e3, e4⟩ := trCells_at l k x hx
  obtain ⟨g, rfl, c0⟩ := h2 _ _ e0
  refine ⟨g, rfl, c0, ?_, ?_, ?_, ?_⟩
  · obtain ⟨_, h9, c⟩ := h2 _ _ e1
    injection h9 with h9; injection h9 with h9; subst h9; exact c
  · obtain ⟨_, h9, c⟩ := h2 _ _ e2
    injection h9 with h9; injection h9 with h9; subst h9; exact c
  · obtain ⟨_, h9, c⟩ := h2 _ _ e3
    injection h9 with h9; injection h9 with h9; subst h9; exact c
  · obtain ⟨_, h9, c⟩ := h2 _ _ e4
    injection h9 with h9; injection h9 with h9; subst h9; exact c

def RowPost (w : World) (l : List PTr) (pid : Int) (e : Ending) (w' : World) : Prop :=
  e = .returned (.tuple #[(rowZ l pid).val, .int .i64 (rowC l pid)]) ∧ Below w.heap.size w w'

set_option maxHeartbeats 1000000 in
theorem row_ret {w w1 : World} {p : Nat} {x : PTr} {c pid : Int} {l : List PTr} {tm : Array Value} (hp : tm[4]? = some (.pointer (some ⟨p, 0, none⟩))) (hc : tm[5]? = some (.int .i64 c)) (hb : Blk w1 p #[.int .i64 x.pid, .int .i64 x.epoch, .int .i64 x.state, .int .i64 x.parts, .int .i64 x.last] 28) (hB : Below w.heap.size w w1) (hz : rowZ l pid = x) (he : rowC l pid = c) :
    bodyPost Tryz.prog Tryz.f48 (RowPost w l pid) .ret { tmps := tm, defers := [] } w1 := by
  have c0 := hb.cell (i := 0) (v := .int .i64 x.pid) rfl
  have c1 := hb.cell (i := 1) (v := .int .i64 x.epoch) rfl
  have c2 := hb.cell (i := 2) (v := .int .i64 x.state) rfl
  have c3 := hb.cell (i := 3) (v := .int .i64 x.parts) rfl
  have c4 := hb.cell (i := 4) (v := .int .i64 x.last) rfl
  refine bodyPost_ret (v := .tuple #[x.val, .int .i64 c]) (by simp [results, Tryz.results48, go_sem, hp, hc, c0, c1, c2, c3, c4, PTr.val]) rfl ⟨by rw [hz, he], hB⟩

set_option maxHeartbeats 2000000 in
theorem txRow {w : World} {v : Value} {l : List PTr} (pid : Int) (h : Reads w v l.length 5 (trCells l)) (hl : l.length ≤ 1000000) :
    Calls Tryz.prog 48 #[v, .int .i64 pid] w (RowPost w l pid) := by
  obtain ⟨ad, cap, rfl⟩ : ∃ ad cap, v = .slice ad l.length cap := by
    obtain ⟨_, ad, cap, e, _⟩ := h
    exact ⟨ad, cap, e⟩
  have HR := hid h
  clear h
  have hba : Below w.heap.size w (w.alloc (.cells #[.int .i64 0, .int .i64 0, .int .i64 0, .int .i64 0, .int .i64 0] 28)) := bel_alloc (Below.refl w.heap.size w) _
  have HBA := hid hba
  have HBK := hid (Blk.new w #[.int .i64 0, .int .i64 0, .int .i64 0, .int .i64 0, .int .i64 0] 28)
  clear hba
  go_enter Tryz.func48, Tryz.ntmps48
  go_wp2_with fail
  go_loopw [10] (fun c wr => ∃ k : Nat, k ≤ l.length ∧ c = .int .i64 k ∧ Below w.heap.size w wr ∧ Blk wr w.heap.size #[.int .i64 0, .int .i64 0, .int .i64 0, .int .i64 0, .int .i64 0] 28 ∧ ∀ y ∈ l.take k, y.pid ≠ pid) (fun c _ => l.length - (intOf c).toNat)
  case atStart => exact ⟨0, by omega, rfl, HBA.out, HBK.out, by simp⟩
  case round =>
    clear HBA HBK
    obtain ⟨k, hk, rfl, hb, hbk, hno⟩ := hrel
    have HB := hid hb
    have HBK := hid hbk
    have HNO := hid hno
    have hlt0 : w.heap.size < wr.heap.size := hbk.lt
    have b0 := hbk.cell (i := 0) (v := .int .i64 0) rfl
    have b1 := hbk.cell (i := 1) (v := .int .i64 0) rfl
    have b2 := hbk.cell (i := 2) (v := .int .i64 0) rfl
    have b3 := hbk.cell (i := 3) (v := .int .i64 0) rfl
    have b4 := hbk.cell (i := 4) (v := .int .i64 0) rfl
    have f0 := hbk.free 0
    have f1 := hbk.free 1
    have f2 := hbk.free 2
    have f3 := hbk.free 3
    have f4 := hbk.free 4
    clear hb hbk hno
    by_cases hlt : k < l.length
    · obtain ⟨x, hx⟩ : ∃ x, l[k]? = some x := ⟨_, List.getElem?_eq_getElem hlt⟩
      obtain ⟨ga, rfl, a0, a1, a2, a3, a4⟩ := trReads (HR.out.below HB.out) hx
      have HX := hid hx
      clear hx
      have hne : w.heap.size ≠ wr.heap.size := by omega
      have hba2 : Below w.heap.size w (wr.alloc (.cells #[.int .i64 x.pid, .int .i64 x.epoch, .int .i64 x.state, .int .i64 x.parts, .int .i64 x.last] 28)) := bel_alloc HB.out _
      have hbk2 := HBK.out.alloc (.cells #[.int .i64 x.pid, .int .i64 x.epoch, .int .i64 x.state, .int .i64 x.parts, .int .i64 x.last] 28)
      have HBA2 := hid hba2
      have HBK2 := hid hbk2
      clear hba2 hbk2
      by_cases he : x.pid = pid
      · have hro := rowOf_first HNO.out HX.out he
        have hz : rowZ l pid = x := by unfold rowZ; rw [hro]; rfl
        have hc : rowC l pid = 0 := by unfold rowC; rw [hro]
        have HZ := hid hz
        have HC := hid hc
        clear hro hz hc
        subst he
        go_wp2_with fail
        refine row_ret rfl rfl (x := x) ?_ ?_ HZ.out HC.out
        · simpa using (((((HBK.out.set 0 (.int .i64 x.pid)).set 1 (.int .i64 x.epoch)).set 2 (.int .i64 x.state)).set 3 (.int .i64 x.parts)).set 4 (.int .i64 x.last)).alloc (.cells #[.int .i64 x.pid, .int .i64 x.epoch, .int .i64 x.state, .int .i64 x.parts, .int .i64 x.last] 28)
        · exact bel_alloc (((((HB.out.setCell (by simp) _).setCell (by simp) _).setCell (by simp) _).setCell (by simp) _).setCell (by simp) _) _
      · have hd : decide (x.pid = pid) = false := decide_eq_false he
        have hb9 : (x.pid == pid) = false := by simpa using he
        have hno2 : ∀ y ∈ l.take (k + 1), y.pid ≠ pid := by
          intro y hy
          rw [List.take_add_one, HX.out] at hy
          rcases List.mem_append.1 hy with hy | hy
          · exact HNO.out y hy
          · simp only [Option.toList_some, List.mem_singleton] at hy
            subst hy; exact he
        have HNO2 := hid hno2
        clear hno2
        go_wp2_with fail
        go_roundw
        case rel => exact ⟨k + 1, by omega, by go_num, HBA2.out, HBK2.out, HNO2.out⟩
        case measure => simp [intOf]; omega
    · obtain rfl : k = l.length := by omega
      have hro := rowOf_no (l := l) (pid := pid) (by have := HNO.out; rw [List.take_length] at this; exact this)
      have hz : rowZ l pid = ⟨0, 0, 0, 0, 0⟩ := by unfold rowZ; rw [hro]; rfl
      have hc : rowC l pid = 3 := by unfold rowC; rw [hro]
      have HZ := hid hz
      have HC := hid hc
      clear hro hz hc
      go_wp2_with fail
      refine row_ret rfl rfl (x := ⟨0, 0, 0, 0, 0⟩) ?_ ?_ HZ.out HC.out
      · simpa using ((((HBK.out.set 0 (.int .i64 0)).set 1 (.int .i64 0)).set 2 (.int .i64 0)).set 3 (.int .i64 0)).set 4 (.int .i64 0)
      · exact ((((HB.out.setCell (by simp) _).setCell (by simp) _).setCell (by simp) _).setCell (by simp) _).setCell (by simp) _
end Go.Proofs.YtbnefpdjcbegpaaGreatDoor

namespace Go.Proofs.YtbnefpdjcbegpaaGreatDoor
open Go.RowKit

set_option maxHeartbeats 1000000 in
theorem txCmp (x : PTr) (p : Int) (hx : 1 ≤ x.pid ∧ x.pid ≤ 8) (hp : 1 ≤ p ∧ p ≤ 8) (w : World) : Calls Tryz.prog 93 #[x.val, .int .i64 p] w fun e w' => e = .returned (.int .i64 (x.pid - p)) ∧ Below w.heap.size w w' := by
  obtain ⟨p1, p2⟩ := hp
  obtain ⟨x1, x2⟩ := hx
  have HB := hid (bel_alloc (Below.refl w.heap.size w) (.cells #[.int .i64 x.pid, .int .i64 x.epoch, .int .i64 x.state, .int .i64 x.parts, .int .i64 x.last] 28))
  unfold PTr.val
  go_enter Tryz.func93, Tryz.ntmps93
  go_wp2_with fail
  go_ret
  exact ⟨rfl, HB.out⟩

theorem tr_get {l : List PTr} (hl : TRight l) {i j : Nat} {x y : PTr} (hx : l[i]? = some x) (hy : l[j]? = some y) (h : i ≤ j) : x.pid ≤ y.pid := by
  rcases Nat.lt_or_eq_of_le h with h1 | h1
  · have h6 := hl.asc
    rw [List.pairwise_iff_getElem] at h6
    have hi := (List.getElem?_eq_some_iff.1 hx).1
    have hj := (List.getElem?_eq_some_iff.1 hy).1
    have h7 := h6 i j hi hj h1
    rw [(List.getElem?_eq_some_iff.1 hx).2, (List.getElem?_eq_some_iff.1 hy).2] at h7
    omega
  · subst h1
    rw [hx] at hy
    injection hy with hy
    rw [hy]; exact Int.le_refl _

/-- All ahead of a place are less, all from a place on are not. -/
structure Mid (l : List PTr) (pid : Int) (lo hi : Nat) : Prop where
  le : lo ≤ hi
  top : hi ≤ l.length
  pre : ∀ j x, j < lo → l[j]? = some x → x.pid < pid
  post : ∀ j x, hi ≤ j → l[j]? = some x → pid ≤ x.pid

theorem Mid.stand {l : List PTr} {pid : Int} {i : Nat} (h : Mid l pid i i) : Stand l pid i := by
  refine ⟨h.top, fun x hx => ?_, fun x hx => ?_⟩
  · obtain ⟨j, hj⟩ := List.getElem?_of_mem hx
    rw [List.getElem?_take] at hj
    split at hj
    · rename_i h1; exact h.pre j x h1 hj
    · cases hj
  · obtain ⟨j, hj⟩ := List.getElem?_of_mem hx
    rw [List.getElem?_drop] at hj
    exact h.post _ x (by omega) hj

def SearchPost (w : World) (l : List PTr) (pid : Int) (e : Ending) (w' : World) : Prop :=
  ∃ i : Nat, Stand l pid i ∧ e = .returned (.tuple #[.int .i64 i, .bool (rowOf l pid).isSome]) ∧ Below w.heap.size w w'

set_option maxHeartbeats 4000000 in
theorem txSearch {w : World} {v : Value} {l : List PTr} (pid : Int) (hr : TRight l) (hp : 1 ≤ pid ∧ pid ≤ 8) (h : Reads w v l.length 5 (trCells l)) :
    Calls Tryz.prog 92 #[v, .int .i64 pid, .func (.func 93) #[] #[]] w (SearchPost w l pid) := by
  have hl8 := hr.len
  obtain ⟨ad, cap, rfl⟩ : ∃ ad cap, v = .slice ad l.length cap := by
    obtain ⟨_, ad, cap, e, _⟩ := h
    exact ⟨ad, cap, e⟩
  have eg : ∀ args w, (callFunc 93 args).run Tryz.prog w = .ok (.enter 93 args) w := fun args w => by kernel_rfl
  have HR := hid h
  have HT := hid hr
  have HP := hid hp
  clear h hr hp
  go_enter Tryz.func92, Tryz.ntmps92
  go_wp2_with fail
  go_loopw [9, 10] (fun a b wr => ∃ lo hi : Nat, Mid l pid lo hi ∧ a = .int .i64 lo ∧ b = .int .i64 hi ∧ Below w.heap.size w wr) (fun a b _ => (intOf b).toNat - (intOf a).toNat)
  case atStart => exact ⟨0, l.length, ⟨by omega, by omega, fun j x hj => by omega, fun j x hj hx => by have := (List.getElem?_eq_some_iff.1 hx).1; omega⟩, rfl, rfl, Below.refl _ _⟩
  case round =>
    obtain ⟨lo, hi, hmid, rfl, rfl, hb⟩ := hrel
    have HM := hid hmid
    have HB := hid hb
    have hle := hmid.le
    have htop := hmid.top
    clear hmid hb
    by_cases hlt : lo < hi
    · obtain ⟨m, hm⟩ : ∃ m, (lo + hi) / 2 = m := ⟨_, rfl⟩
      have hm1 : ((lo : Int) + (hi : Int)) / 2 = (m : Int) := by omega
      have hmlo : lo ≤ m := by omega
      have hmhi : m < hi := by omega
      have hml : m < l.length := by omega
      obtain ⟨x, hx⟩ : ∃ x, l[m]? = some x := ⟨_, List.getElem?_eq_getElem hml⟩
      obtain ⟨ga, rfl, a0, a1, a2, a3, a4⟩ := trReads (HR.out.below HB.out) hx
      have hxp := (HT.out.all x (List.mem_of_getElem? hx)).1
      have HX := hid hx
      have hcmp := txCmp x pid hxp HP.out wr
      unfold PTr.val at hcmp
      have HCMP := hid hcmp
      have hxp1 := hxp.1
      have hxp2 := hxp.2
      have hp1 := HP.out.1
      have hp2 := HP.out.2
      clear hm hx hxp hcmp
      have hm2 : m * 5 + 0 = m * 5 := Nat.add_zero _
      by_cases hc : x.pid - pid < 0
      · have hd : decide (x.pid - pid < 0) = true := decide_eq_true hc
        go_wp2_with fail
        refine HCMP.out.mono ?_
        rintro e w2 ⟨rfl, hb2⟩
        have HB2 := hid (bel_next HB.out hb2)
        have hmid2 : Mid l pid (m + 1) hi := ⟨by omega, htop, fun j y hj hy => by
          have := tr_get HT.out hy HX.out (by omega)
          omega, HM.out.post⟩
        have HM2 := hid hmid2
        clear hb2 hmid2
        go_wp2_with fail
        go_roundw
        case rel => exact ⟨m + 1, hi, HM2.out, by go_num, rfl, HB2.out⟩
        case measure => simp [intOf]; omega
      · have hd : decide (x.pid - pid < 0) = false := decide_eq_false hc
        go_wp2_with fail
        refine HCMP.out.mono ?_
        rintro e w2 ⟨rfl, hb2⟩
        have HB2 := hid (bel_next HB.out hb2)
        have hmid2 : Mid l pid lo m := ⟨by omega, by omega, HM.out.pre, fun j y hj hy => by
          have := tr_get HT.out HX.out hy (by omega)
          omega⟩
        have HM2 := hid hmid2
        clear hb2 hmid2
        go_wp2_with fail
        go_roundw
        case rel => exact ⟨lo, m, HM2.out, rfl, by go_num, HB2.out⟩
        case measure => simp [intOf]; omega
    · obtain rfl : hi = lo := by omega
      have hst := HM.out.stand
      have HST := hid hst
      by_cases hin : hi < l.length
      · obtain ⟨x, hx⟩ : ∃ x, l[hi]? = some x := ⟨_, List.getElem?_eq_getElem hin⟩
        obtain ⟨ga, rfl, a0, a1, a2, a3, a4⟩ := trReads (HR.out.below HB.out) hx
        have hxp := (HT.out.all x (List.mem_of_getElem? hx)).1
        have HX := hid hx
        have hcmp := txCmp x pid hxp HP.out wr
        unfold PTr.val at hcmp
        have HCMP := hid hcmp
        have hxp1 := hxp.1
        have hxp2 := hxp.2
        have hp1 := HP.out.1
        have hp2 := HP.out.2
        have hd1 : decide (hi < l.length) = true := decide_eq_true hin
        clear hx hxp hcmp hst
        by_cases hc : x.pid = pid
        · have hro : (rowOf l pid).isSome = true := by rw [← hc, rowOf_at HT.out HX.out]; rfl
          have HRO := hid hro
          have hd : decide (x.pid - pid = 0) = true := decide_eq_true (by omega)
          have hz : x.pid - pid = 0 := by omega
          have HZ := hid hz
          clear hro hz hc
          go_wp2_with fail
          refine HCMP.out.mono ?_
          rintro e w2 ⟨rfl, hb2⟩
          have HB2 := hid (bel_next HB.out hb2)
          clear hb2
          rw [HZ.out]
          go_wp2_with fail
          go_ret2
          exact ⟨hi, HST.out, by rw [HRO.out]; rfl, HB2.out⟩
        · have hro : (rowOf l pid).isSome = false := by
            cases hr9 : rowOf l pid with
            | none => rfl
            | some s =>
              have h1 := HST.out.is HT.out hr9
              rw [HX.out] at h1
              injection h1 with h1
              exact absurd (by rw [h1]; exact (rowOf_mem hr9).2) hc
          have HRO := hid hro
          obtain ⟨z, hz⟩ : ∃ z, x.pid - pid = z := ⟨_, rfl⟩
          have hz0 : ¬ z = 0 := by omega
          have hd : decide (z = 0) = false := decide_eq_false hz0
          have hzb : (z == 0) = false := by simpa using hz0
          have HZ := hid hz
          clear hro hz
          go_wp2_with fail
          refine HCMP.out.mono ?_
          rintro e w2 ⟨rfl, hb2⟩
          have HB2 := hid (bel_next HB.out hb2)
          clear hb2
          rw [HZ.out]
          go_wp2_with fail
          go_ret2
          exact ⟨hi, HST.out, by rw [HRO.out]; rfl, HB2.out⟩
      · have hd1 : decide (hi < l.length) = false := decide_eq_false hin
        have hro : (rowOf l pid).isSome = false := by
          cases hr9 : rowOf l pid with
          | none => rfl
          | some s =>
            have h1 := HST.out.is HT.out hr9
            have := (List.getElem?_eq_some_iff.1 h1).1
            omega
        have HRO := hid hro
        clear hro hst
        go_wp2_with fail
        go_ret2
        exact ⟨hi, HST.out, by rw [HRO.out]; rfl, HB.out⟩

set_option maxHeartbeats 1000000 in
theorem txFind {w : World} {v : Value} {l : List PTr} (pid : Int) (hr : TRight l) (hp : 1 ≤ pid ∧ pid ≤ 8) (h : Reads w v l.length 5 (trCells l)) :
    Calls Tryz.prog 71 #[v, .int .i64 pid] w (SearchPost w l pid) := by
  obtain ⟨ad, cap, rfl⟩ : ∃ ad cap, v = .slice ad l.length cap := by
    obtain ⟨_, ad, cap, e, _⟩ := h
    exact ⟨ad, cap, e⟩
  have HS := hid (txSearch pid hr hp h)
  clear h hr hp
  go_enter Tryz.func71, Tryz.ntmps71
  go_wp2_with fail
  refine HS.out.mono ?_
  rintro e w2 ⟨i, hi, rfl, hb⟩
  have HI := hid hi
  have HB := hid hb
  clear hi hb
  go_wp2_with fail
  go_ret2
  exact ⟨i, HI.out, rfl, HB.out⟩
end Go.Proofs.YtbnefpdjcbegpaaGreatDoor

namespace Go.Proofs.YtbnefpdjcbegpaaGreatDoor
open Go.RowKit

theorem txProducer' (p : Int) (w : World) (h : 1 ≤ p ∧ p ≤ 8) : Calls Tryz.prog 52 #[.int .i64 p] w fun e w' => e = .returned (.bool true) ∧ w' = w :=
  (txProducer p true w (decide_eq_true h)).mono fun _ _ ⟨h1, h2⟩ => ⟨h1, h2.symm⟩

set_option maxHeartbeats 4000000 in
theorem txRight {w : World} {v : Value} {l : List PTr} (hr : TRight l) (h : Reads w v l.length 5 (trCells l)) :
    Calls Tryz.prog 70 #[v] w fun e w' => e = .returned (.bool true) ∧ Below w.heap.size w w' := by
  have hl8 := hr.len
  obtain ⟨ad, cap, rfl⟩ : ∃ ad cap, v = .slice ad l.length cap := by
    obtain ⟨_, ad, cap, e, _⟩ := h
    exact ⟨ad, cap, e⟩
  have HR := hid h
  have HT := hid hr
  clear h hr
  go_enter Tryz.func70, Tryz.ntmps70
  go_wp2_with fail
  go_loopw [7] (fun c wr => ∃ k : Nat, k ≤ l.length ∧ c = .int .i64 k ∧ Below w.heap.size w wr) (fun c _ => l.length - (intOf c).toNat)
  case atStart => exact ⟨0, by omega, rfl, Below.refl _ _⟩
  case round =>
    obtain ⟨k, hk, rfl, hb⟩ := hrel
    have HB := hid hb
    clear hb
    by_cases hlt : k < l.length
    · obtain ⟨x, hx⟩ : ∃ x, l[k]? = some x := ⟨_, List.getElem?_eq_getElem hlt⟩
      obtain ⟨ga, rfl, a0, a1, a2, a3, a4⟩ := trReads (HR.out.below HB.out) hx
      have HX := hid hx
      obtain ⟨hxp, hxe1, hxe2⟩ := HT.out.all x (List.mem_of_getElem? hx)
      have HXP := hid hxp
      have hd1 : decide (x.epoch < 1) = false := decide_eq_false (by omega)
      have hd2 : decide (1099511627776 < x.epoch) = false := decide_eq_false (by omega)
      have hga : ga < wr.heap.size := World.block_lt_of_cell? wr _ a0
      have hne : ga ≠ wr.heap.size := by omega
      have HBA := hid (bel_alloc HB.out (.cells #[.int .i64 x.pid, .int .i64 x.epoch, .int .i64 x.state, .int .i64 x.parts, .int .i64 x.last] 28))
      clear hx hxp
      by_cases hk0 : 0 < k
      · obtain ⟨y, hy⟩ : ∃ y, l[k - 1]? = some y := ⟨_, List.getElem?_eq_getElem (by omega)⟩
        obtain ⟨ga2, e9, y0, _⟩ := trReads (HR.out.below HB.out) hy
        injection e9 with e9
        injection e9 with e9
        subst e9
        have hlt9 : y.pid < x.pid := by
          have h6 := HT.out.asc
          rw [List.pairwise_iff_getElem] at h6
          have h7 := h6 (k - 1) k (by omega) hlt (by omega)
          rw [(List.getElem?_eq_some_iff.1 hy).2, (List.getElem?_eq_some_iff.1 HX.out).2] at h7
          exact h7
        have hd3 : decide (0 < k) = true := decide_eq_true hk0
        have hd4 : decide (x.pid ≤ y.pid) = false := decide_eq_false (by omega)
        have hi1 : IntKind.i64.wrap ((k : Int) - 1) = ((k - 1 : Nat) : Int) := by rw [IntWalk.i64_in _ (by omega)]; omega
        clear hy
        go_wp2_with fail
        go_quiet ((go_at_call 52; exact Calls.quiet_of_same (txProducer' _ _ HXP.out)))
        go_wp2_with fail
        go_roundw
        case rel => exact ⟨k + 1, by omega, by go_num, bel_next HBA.out (bel_drewN _ _ _)⟩
        case measure => simp [intOf]; omega
      · obtain rfl : k = 0 := by omega
        go_wp2_with fail
        go_quiet ((go_at_call 52; exact Calls.quiet_of_same (txProducer' _ _ HXP.out)))
        go_wp2_with fail
        go_roundw
        case rel => exact ⟨0 + 1, by omega, by go_num, bel_next HBA.out (bel_drewN _ _ _)⟩
        case measure => simp [intOf]; omega
    · obtain rfl : k = l.length := by omega
      go_wp2_with fail
      go_ret
      exact ⟨rfl, HB.out⟩
end Go.Proofs.YtbnefpdjcbegpaaGreatDoor

namespace Go.Proofs.YtbnefpdjcbegpaaGreatDoor
open Go.RowKit

/-- Cells set one behind the other. -/
def setL : List Value → Nat → List Value → List Value
  | ys, _, [] => ys
  | ys, o, v :: vs => setL (ys.set o v) (o + 1) vs

theorem setL_eq : ∀ (vs ys : List Value) (o : Nat), o + vs.length ≤ ys.length → setL ys o vs = ys.take o ++ vs ++ ys.drop (o + vs.length)
  | [], ys, o, _ => by simp [setL]
  | v :: vs, ys, o, h => by
    rw [List.length_cons] at h
    have ho : o < ys.length := by omega
    rw [setL, setL_eq vs (ys.set o v) (o + 1) (by rw [List.length_set]; omega)]
    have e1 : (ys.set o v).take (o + 1) = ys.take o ++ [v] := by
      rw [List.take_add_one, List.getElem?_set_self ho, List.take_set_of_le (by omega)]; rfl
    have e2 : (ys.set o v).drop (o + 1 + vs.length) = ys.drop (o + (v :: vs).length) := by
      rw [List.drop_set_of_lt (by omega), List.length_cons]; congr 1; omega
    rw [e1, e2]
    simp

section
variable {w : World} {base g m cap : Nat} {e : TypeId} {size n : Nat} {xs : List Value}

theorem own_setL : ∀ (vs : List Value) {w : World} {o : Nat} {xs : List Value}, w.ownsRow base e size (.slice (some ⟨g, 0, none⟩) m cap) n xs → (w.setCells g o vs).ownsRow base e size (.slice (some ⟨g, 0, none⟩) m cap) n (setL xs o vs)
  | [], _, _, _, h => h
  | v :: vs, _, o, _, h => own_setL vs (own_set h o v)

theorem own_more (h : w.ownsRow base e size (.slice (some ⟨g, 0, none⟩) n cap) n xs) (hr : n + 1 ≤ cap) :
    ∃ ys, w.ownsRow base e size (.slice (some ⟨g, 0, none⟩) (n + 1) cap) (n + 1) ys ∧ ys.take (n * size) = xs ∧ ys.length = (n + 1) * size := by
  obtain ⟨h1, h2⟩ := h
  rcases h2 with ⟨h2, _⟩ | ⟨g2, c2, cur, h2, h3, h4, h5, h6, h7, h8⟩
  · cases h2
  · simp only [Value.slice.injEq, Option.some.injEq, Addr.mk.injEq, and_true, true_and] at h2
    obtain ⟨rfl, rfl⟩ := h2
    have hm := Nat.mul_le_mul_right size hr
    have hl : (cur.toList.take ((n + 1) * size)).length = (n + 1) * size := by
      rw [List.length_take, Array.length_toList, h7]; omega
    refine ⟨cur.toList.take ((n + 1) * size), ⟨hl, .inr ⟨g, cap, cur, rfl, h3, h4, hr, h6, h7, rfl⟩⟩, ?_, hl⟩
    rw [List.take_take, Nat.min_eq_left (Nat.mul_le_mul_right size (by omega)), h8]

/-- A place is made in a row. -/
theorem own_ins {ts : List Value} {i : Nat} (h : w.ownsRow base e size (.slice (some ⟨g, 0, none⟩) n cap) n xs) (hr : n + 1 ≤ cap) (hi : i ≤ n) (ht : ts.length = size) :
    ((w.setCells g ((i + 1) * size) (xs.drop (i * size))).setCells g (i * size) ts).ownsRow base e size (.slice (some ⟨g, 0, none⟩) (n + 1) cap) (n + 1) (xs.take (i * size) ++ ts ++ xs.drop (i * size)) := by
  obtain ⟨ys, hy, hyx, hyl⟩ := own_more h hr
  have hxl := h.1
  have hm := Nat.mul_le_mul_right size hi
  have e1 : (i + 1) * size = i * size + size := by rw [Nat.succ_mul]
  have e2 : (n + 1) * size = n * size + size := by rw [Nat.succ_mul]
  have hdl : (xs.drop (i * size)).length = n * size - i * size := by rw [List.length_drop, hxl]
  have h9 := own_setL ts (o := i * size) (own_setL (xs.drop (i * size)) (o := (i + 1) * size) hy)
  rw [setL_eq (xs.drop (i * size)) ys ((i + 1) * size) (by rw [hdl]; omega)] at h9
  rw [setL_eq ts _ _ (by simp only [List.length_append, List.length_take, List.length_drop]; omega)] at h9
  have e3 : (ys.take ((i + 1) * size) ++ xs.drop (i * size) ++ ys.drop ((i + 1) * size + (xs.drop (i * size)).length)).take (i * size) = xs.take (i * size) := by
    rw [List.append_assoc, List.take_append_of_le_length (by rw [List.length_take]; omega), List.take_take, Nat.min_eq_left (by omega), ← hyx, List.take_take, Nat.min_eq_left hm]
  have e4 : (ys.take ((i + 1) * size) ++ xs.drop (i * size) ++ ys.drop ((i + 1) * size + (xs.drop (i * size)).length)).drop (i * size + ts.length) = xs.drop (i * size) := by
    have e5 : ys.drop ((i + 1) * size + (xs.drop (i * size)).length) = [] := List.drop_eq_nil_of_le (by rw [hdl]; omega)
    rw [e5, List.append_nil, ht, ← e1, List.drop_append_of_le_length (by rw [List.length_take]; omega), List.drop_eq_nil_of_le (by rw [List.length_take]; omega)]
    rfl
  rw [e3, e4] at h9
  exact h9
end

theorem own_cap8 {w : World} {base : Nat} {e : TypeId} {size : Nat} {ad : Option Addr} {n m cap : Nat} {xs : List Value} (h : w.ownsRow base e size (.slice ad m cap) n xs) : n ≤ cap ∧ m = n ∧ cap ≤ maxLen := by
  rcases h.2 with ⟨e1, hz⟩ | ⟨g, c, cur, e1, _, _, h3, h4, _⟩
  · injection e1 with _ e2 e3
    subst e2 e3
    exact ⟨by omega, by omega, by unfold maxLen; omega⟩
  · injection e1 with _ e2 e3
    subst e2 e3
    exact ⟨h3, rfl, h4⟩

theorem run_copy_rows {P : Program} (w : World) (dT sT ty elem : TypeId) (size : Nat) (b o dLen dCap : Nat) (a : Addr) (sLen sCap n : Nat) (cs : List Value)
    (hu : P.underlying dT = some (.slice elem)) (hs : (P.info? elem).map (·.size) = some size) (hn : n = Nat.min sLen dLen) (hl0 : cs.length = n * size)
    (hsrc : ∀ j v, cs[j]? = some v → w.cell? (a.add j) = some v) (hc : ∀ j, j < cs.length → (w.cell? ⟨b, o + j, none⟩).isSome = true) (hf : ∀ j, j < cs.length → w.frozen? ⟨b, o + j, none⟩ = false) (h1 : ∀ v ∈ cs, v.oneCell' = true) :
    (Builtin.copy_ #[dT, sT] ty #[.slice (some ⟨b, o, none⟩) dLen dCap, .slice (some a) sLen sCap]).run P w = .ok (goInt n) (w.setCells b o cs) := by
  have hl := run_loadCells_list (P := P) w a cs hsrc
  have hst := run_storeCells_cells (P := P) b o cs 0 w (by simpa using hc) (by simpa using hf) h1
  rw [hl0] at hl
  cases hq : P.info? elem with
  | none => simp [hq] at hs
  | some i =>
    have hi : i.size = size := by simpa [hq] using hs
    simp [Builtin.copy_, run_underlying hu, Builtin.lenOf, Builtin.firstCells, sizeOf, typeInfo, hq, hi, ← hn, hl, hst]

def InsPost (w : World) (base : Nat) (l : List PTr) (i : Nat) (t : PTr) (e : Ending) (w' : World) : Prop :=
  ∃ v', e = .returned v' ∧ w'.ownsRow base 28 5 v' (l.length + 1) (trCells (l.take i ++ t :: l.drop i)) ∧ Below base w w'

theorem ins_cells (l : List PTr) (i : Nat) (t : PTr) : trCells (l.take i ++ t :: l.drop i) = (trCells l).take (i * 5) ++ t.cells ++ (trCells l).drop (i * 5) := by
  have hs : trCells l = trCells (l.take i) ++ trCells (l.drop i) := by rw [← trCells_app, List.take_append_drop]
  have e1 : trCells (l.take i ++ t :: l.drop i) = trCells (l.take i) ++ t.cells ++ trCells (l.drop i) := by
    rw [trCells_app]
    show trCells (l.take i) ++ (t.cells ++ trCells (l.drop i)) = _
    rw [List.append_assoc]
  by_cases hi : i ≤ l.length
  · have hlen : (trCells (l.take i)).length = i * 5 := by rw [trCells_len, List.length_take, Nat.min_eq_left hi]
    rw [e1, hs, ← hlen, List.take_left, List.drop_left]
  · have h1 : l.take i = l := List.take_of_length_le (by omega)
    have h2 : l.drop i = [] := List.drop_eq_nil_of_le (by omega)
    rw [e1, h1, h2, List.take_of_length_le (by rw [trCells_len]; omega), List.drop_eq_nil_of_le (by rw [trCells_len]; omega)]
    rfl

theorem tr_end (l : List PTr) (t : PTr) : trCells (l.take l.length ++ t :: l.drop l.length) = trCells l ++ t.cells := by
  rw [ins_cells, List.take_of_length_le (by rw [trCells_len]; omega), List.drop_eq_nil_of_le (by rw [trCells_len]; omega), List.append_nil]

set_option maxHeartbeats 2000000 in
theorem txInsert_end {w : World} {base vb : Nat} {v : Value} {l : List PTr} {t : PTr} (h : w.ownsRow base 28 5 v l.length (trCells l)) (hb : base ≤ w.heap.size) (hl : l.length ≤ 8)
    (ht : Blk w vb #[.int .i64 t.pid, .int .i64 t.epoch, .int .i64 t.state, .int .i64 t.parts, .int .i64 t.last] 28) :
    Calls Tryz.prog 72 #[v, .int .i64 l.length, .slice (some ⟨vb, 0, none⟩) 1 1] w (InsPost w base l l.length t) := by
  obtain ⟨i0, hi, hz0, hz1, hz2⟩ := info_parts Tryz.infoCloneTr
  have HH := hid h
  have HT := hid ht
  have HB := hid hb
  have hsrc : ∀ j u, t.cells[j]? = some u → w.cell? ((⟨vb, 0, none⟩ : Addr).add j) = some u := by
    intro j u hj
    rw [Addr.add_lit, Nat.zero_add]
    exact ht.cell (by simpa [PTr.cells] using hj)
  have HS := hid hsrc
  have hone : ∀ u ∈ t.cells, u.oneCell' = true := by
    intro u hu
    simp only [PTr.cells, List.mem_cons, List.not_mem_nil, or_false] at hu
    rcases hu with rfl | rfl | rfl | rfl | rfl <;> rfl
  have HO := hid hone
  clear hsrc hone hb ht
  rcases Joins.ownsRow_forms h with ⟨rfl, hz⟩ | ⟨g, cap, rfl⟩
  · have hl0 : l = [] := List.length_eq_zero_iff.1 hz
    subst hl0
    clear h hl hz
    go_enter Tryz.func72, Tryz.ntmps72
    go_wp2_with (at_builtin; refine wpList_append_own _ rfl _ _ 31 rfl base 28 i0 _ 5 40 Tryz.underlying31 hi hz0 hz1 hz2 rfl (by omega) _ _ _ rfl HH.out ⟨vb, 0, none⟩ 1 1 t.cells rfl rfl HS.out HO.out ?c3 ?c4 ?c5 ?_)
    case c3 => unfold maxLen; simp
    case c4 => simp
    case c5 => exact HB.out
    intro v' w1 hown hgrow hnil
    have HG := hid (bel_append (Below.refl base w) HH.out HB.out hgrow)
    have HW := hid hown
    clear hown hgrow hnil
    go_wp2_with fail
    go_ret
    exact ⟨v', rfl, by have h9 := HW.out; rwa [← tr_end [] t] at h9, HG.out⟩
  · have hcap := (own_cap8 h).1
    have hn0 : (0 : Int) ≤ (l.length : Int) := by omega
    clear h
    by_cases hc : cap = l.length
    · subst hc
      go_enter Tryz.func72, Tryz.ntmps72
      go_wp2_with (at_builtin; refine wpList_append_own _ rfl _ _ 31 rfl base 28 i0 _ 5 40 Tryz.underlying31 hi hz0 hz1 hz2 rfl (by omega) _ _ _ rfl HH.out ⟨vb, 0, none⟩ 1 1 t.cells rfl rfl HS.out HO.out ?c3 ?c4 ?c5 ?_)
      case c3 => unfold maxLen; omega
      case c4 => omega
      case c5 => exact HB.out
      intro v' w1 hown hgrow hnil
      have HG := hid (bel_append (Below.refl base w) HH.out HB.out hgrow)
      have HW := hid hown
      clear hown hgrow hnil
      go_wp2_with fail
      go_ret
      exact ⟨v', rfl, by rw [tr_end]; exact HW.out, HG.out⟩
    · go_enter Tryz.func72, Tryz.ntmps72
      go_wp2_with (at_builtin; refine wpList_append_own _ rfl _ _ 31 rfl base 28 i0 _ 5 40 Tryz.underlying31 hi hz0 hz1 hz2 rfl (by omega) _ _ _ rfl HH.out ⟨vb, 0, none⟩ 1 1 t.cells rfl rfl HS.out HO.out ?d3 ?d4 ?d5 ?_)
      case d3 => unfold maxLen; omega
      case d4 => omega
      case d5 => exact HB.out
      intro v' w1 hown hgrow hnil
      have HG := hid (bel_append (Below.refl base w) HH.out HB.out hgrow)
      have HW := hid hown
      clear hown hgrow hnil
      go_wp2_with fail
      go_ret
      exact ⟨v', rfl, by rw [tr_end]; exact HW.out, HG.out⟩
end Go.Proofs.YtbnefpdjcbegpaaGreatDoor

namespace Go.Proofs.YtbnefpdjcbegpaaGreatDoor
open Go.RowKit

theorem own_shape {w : World} {base g m cap : Nat} {e : TypeId} {size n : Nat} {xs : List Value} (h : w.ownsRow base e size (.slice (some ⟨g, 0, none⟩) m cap) n xs) : w.shape? g = some (e, cap * size) := by
  rcases h.2 with ⟨h2, _⟩ | ⟨g2, c2, cur, h2, h3, h4, h5, h6, h7, _⟩
  · cases h2
  · simp only [Value.slice.injEq, Option.some.injEq, Addr.mk.injEq, and_true] at h2
    obtain ⟨rfl, rfl, rfl⟩ := h2
    simp [World.shape?, h4, h7]

theorem own_some {w : World} {base g m cap : Nat} {e : TypeId} {size n : Nat} {xs : List Value} (h : w.ownsRow base e size (.slice (some ⟨g, 0, none⟩) m cap) n xs) {k : Nat} (hk : k < cap * size) : (w.cell? ⟨g, k, none⟩).isSome = true := by
  rcases h.2 with ⟨h2, _⟩ | ⟨g2, c2, cur, h2, h3, h4, h5, h6, h7, _⟩
  · cases h2
  · simp only [Value.slice.injEq, Option.some.injEq, Addr.mk.injEq, and_true] at h2
    obtain ⟨rfl, rfl, rfl⟩ := h2
    simp [World.cell?, h4, h7, hk]

theorem Tryz.trSize : (Tryz.prog.info? 28).map (·.size) = some 5 := by kernel_rfl

set_option maxHeartbeats 4000000 in
/-- There is room: in place. -/
theorem txInsert_room {w : World} {base vb g cap i : Nat} {l : List PTr} {t : PTr} (h : w.ownsRow base 28 5 (.slice (some ⟨g, 0, none⟩) l.length cap) l.length (trCells l)) (hb : base ≤ w.heap.size) (hi : i < l.length) (hr : l.length + 1 ≤ cap)
    (ht : Blk w vb #[.int .i64 t.pid, .int .i64 t.epoch, .int .i64 t.state, .int .i64 t.parts, .int .i64 t.last] 28) (hne : vb ≠ g) :
    Calls Tryz.prog 72 #[.slice (some ⟨g, 0, none⟩) l.length cap, .int .i64 i, .slice (some ⟨vb, 0, none⟩) 1 1] w (InsPost w base l i t) := by
  have hmax := (own_cap8 h).2.2
  unfold maxLen at hmax
  have hgb := (h.lt g rfl).1
  have hshape := own_shape h
  have hsome := fun k hk => own_some h (k := k) hk
  have hfree := fun k => row_free h k
  have hcell : ∀ j u, (trCells l)[j]? = some u → w.cell? ⟨g, j, none⟩ = some u := fun j u hj => by
    have hlt := (List.getElem?_eq_some_iff.1 hj).1
    rw [trCells_len] at hlt
    rw [h.cellAt j hlt]; exact hj
  have hfin := own_ins (w := w.drew) (ts := t.cells) (i := i) (size := 5) (h : w.drew.ownsRow base 28 5 (.slice (some ⟨g, 0, none⟩) l.length cap) l.length (trCells l)) hr (by omega) rfl
  rw [← ins_cells] at hfin
  have HFIN := hid hfin
  have hsrc : ∀ j u, t.cells[j]? = some u → w.cell? ⟨vb, j, none⟩ = some u := by
    intro j u hj
    exact ht.cell (by simpa [PTr.cells] using hj)
  have hone : ∀ u ∈ t.cells, u.oneCell' = true := by
    intro u hu
    simp only [PTr.cells, List.mem_cons, List.not_mem_nil, or_false] at hu
    rcases hu with rfl | rfl | rfl | rfl | rfl <;> rfl
  have hdl : ((trCells l).drop (i * 5)).length = (l.length - i) * 5 := by rw [List.length_drop, trCells_len, Nat.sub_mul]
  have hin : i ≤ l.length := by omega
  have hw1 : IntKind.i64.wrap ((i : Int) + 1) = (i : Int) + 1 := by rw [IntKind.wrap_i64]; omega
  have hb1 : (0 : Int) ≤ (i : Int) + 1 := by omega
  have htn : ((i : Int) + 1).toNat = i + 1 := by omega
  have hb2 : ¬ (cap = i + 1) := by omega
  have hb3 : (i : Int) ≤ (l.length : Int) + 1 := by omega
  have hb4 : ¬ (cap = i) := by omega
  have hz2 : ¬ ((i : Int) = (l.length : Int)) := by omega
  have hov : ∀ lb cb, (callFunc 94 #[.slice (some ⟨vb, 0, none⟩) 1 1, .slice (some ⟨g, (i + 1) * 5, none⟩) lb cb]).run Tryz.prog w = .ok (.value (.bool false)) w := fun lb cb => by
    rw [run_callFunc_extern Tryz.func94 (by kernel_rfl) (by kernel_rfl) (by kernel_rfl) (e := Extern.SlicesOverlaps.overlaps #[31, 31] #[4]) (by kernel_rfl),
      Lib.run_overlaps_apart w 31 4 28 Tryz.underlying31 5 (fun _ => by kernel_rfl) ⟨vb, 0, none⟩ ⟨g, (i + 1) * 5, none⟩ 1 1 lb cb hne 28 28 5 (cap * 5) (by simp [World.shape?, (show w.heap[vb]? = some _ from ht)]) hshape (by omega) (ht.free 0) (ht.free 5)]
    rfl
  have hcp1 : ∀ ty dc sc, (Builtin.copy_ #[31, 31] ty #[.slice (some ⟨g, (i + 1) * 5, none⟩) (l.length - i) dc, .slice (some ⟨g, i * 5, none⟩) (l.length + 1 - i) sc]).run Tryz.prog w.drew = .ok (goInt ((l.length - i : Nat) : Int)) (w.drew.setCells g ((i + 1) * 5) ((trCells l).drop (i * 5))) := fun ty dc sc =>
    run_copy_rows w.drew _ _ ty 28 5 g ((i + 1) * 5) (l.length - i) dc ⟨g, i * 5, none⟩ (l.length + 1 - i) sc (l.length - i) ((trCells l).drop (i * 5)) Tryz.underlying31 Tryz.trSize (by simp only [Nat.min_def]; split <;> omega) hdl
      (fun j v hj => by rw [Addr.add_lit]; exact hcell _ v (by rwa [List.getElem?_drop] at hj))
      (fun j hj => hsome _ (by rw [hdl] at hj; have := Nat.mul_le_mul_right 5 hr; omega)) (fun j _ => hfree _) (fun v hv => tr_one l v (List.mem_of_mem_drop hv))
  obtain ⟨W1, hW1⟩ : ∃ W1, W1 = w.drew.setCells g ((i + 1) * 5) ((trCells l).drop (i * 5)) := ⟨_, rfl⟩
  have hsp1 : ∀ k, k < cap * 5 → (W1.cell? ⟨g, k, none⟩).isSome = true := fun k hk => by
    rw [hW1]
    exact isSome_setCells g _ _ w.drew (fun j hj => hsome ((i + 1) * 5 + j) (by rw [hdl] at hj; have := Nat.mul_le_mul_right 5 hr; omega)) k (hsome k hk)
  have mixed : Tryz.prog.follows Departure.mixedOrders = true := by kernel_rfl
  have hcp2 : ∀ (W : World), (∀ x, W.cell? x = W1.cell? x) → (∀ x, W.frozen? x = W1.frozen? x) → ∀ ty dc, (Builtin.copy_ #[31, 31] ty #[.slice (some ⟨g, i * 5, none⟩) (l.length + 1 - i) dc, .slice (some ⟨vb, 0, none⟩) 1 1]).run Tryz.prog W = .ok (goInt ((1 : Nat) : Int)) (W.setCells g (i * 5) t.cells) := fun W hWc hWf ty dc =>
    run_copy_rows W _ _ ty 28 5 g (i * 5) (l.length + 1 - i) dc ⟨vb, 0, none⟩ 1 1 1 t.cells Tryz.underlying31 Tryz.trSize (by simp only [Nat.min_def]; split <;> omega) rfl
      (fun j v hj => by
        rw [Addr.add_lit, Nat.zero_add, hWc, hW1, World.cell?_setCells_out g _ _ _ _ (fun h _ => absurd h hne)]
        exact hsrc j v hj)
      (fun j hj => by
        have h5 : t.cells.length = 5 := rfl
        rw [h5] at hj
        rw [hWc]
        exact hsp1 (i * 5 + j) (by have := Nat.mul_le_mul_right 5 hr; omega))
      (fun j hj => by rw [hWf, hW1, World.frozen?_setCells]; exact hfree _) hone
  have HBEL : Hid (Below base w ((w.drew.setCells g ((i + 1) * 5) ((trCells l).drop (i * 5))).setCells g (i * 5) t.cells)) := hid (
    (fr_cells (S := fun k => k = g) rfl _ (fr_cells (S := fun k => k = g) rfl _ (Fr.refl _ _).drew)).to_below hb (fun k hk e => by omega))
  rw [← hW1] at hcp1
  have HW1 := hid hW1
  clear hsp1 hW1 h ht hb hfin hcell hsome hfree hsrc hone hdl hshape hgb
  go_enter Tryz.func72, Tryz.ntmps72
  go_wp2_with (simp only [hov])
  go_region_law_o (refine step_copy_runI rfl _ _ 31 31 rfl _ _ (by simp [Act.eval, Act.put]) (by simp [Act.eval, Act.put]) (hcp1 _ _ _) ?_)
  go_wp2_with fail
  clear hcp1 hcp2 hov
  rw [HW1.out]
  have HF2 := HFIN.out
  have HB2 := HBEL.out
  clear HFIN HBEL HW1
  generalize (w.drew.setCells g ((i + 1) * 5) ((trCells l).drop (i * 5))).setCells g (i * 5) t.cells = w9 at HF2 HB2 ⊢
  go_ret
  exact ⟨.slice (some ⟨g, 0, none⟩) (l.length + 1) cap, rfl, HF2, HB2⟩
end Go.Proofs.YtbnefpdjcbegpaaGreatDoor

namespace Go.Proofs.YtbnefpdjcbegpaaGreatDoor
open Go.RowKit

theorem own_row_new {w : World} {base n G H : Nat} {T : TypeId} {size : Nat} {ROW : Array Value} (hb : base ≤ H) (hH : w.heap[H]? = some (.cells ROW T (0, 0))) (hn : n ≤ G) (hG : G ≤ maxLen) (hs : ROW.size = G * size) :
    w.ownsRow base T size (.slice (some ⟨H, 0, none⟩) n G) n (ROW.toList.take (n * size)) := by
  refine ⟨?_, .inr ⟨H, G, ROW, rfl, hb, hH, hn, hG, hs, rfl⟩⟩
  have := Nat.mul_le_mul_right size hn
  rw [List.length_take, Array.length_toList, hs]; omega

set_option maxHeartbeats 4000000 in
/-- There is no room: a new row. -/
theorem txInsert_grow {w : World} {base vb g cap i : Nat} {l : List PTr} {t : PTr} (h : w.ownsRow base 28 5 (.slice (some ⟨g, 0, none⟩) l.length cap) l.length (trCells l)) (hb : base ≤ w.heap.size) (hi : i < l.length) (hr : ¬ l.length + 1 ≤ cap) (hl : l.length ≤ 8)
    (ht : Blk w vb #[.int .i64 t.pid, .int .i64 t.epoch, .int .i64 t.state, .int .i64 t.parts, .int .i64 t.last] 28) :
    Calls Tryz.prog 72 #[.slice (some ⟨g, 0, none⟩) l.length cap, .int .i64 i, .slice (some ⟨vb, 0, none⟩) 1 1] w (InsPost w base l i t) := by
  obtain ⟨hcap, _, _⟩ := own_cap8 h
  have hce : cap = l.length := by omega
  subst hce
  have hgl := (h.lt g rfl).2
  have hvl := ht.lt
  obtain ⟨i0, hi0, hz0, hzs, hzb⟩ := info_parts Tryz.infoCloneTr
  have hcell : ∀ j u, (trCells l)[j]? = some u → w.cell? ⟨g, j, none⟩ = some u := fun j u hj => by
    have hlt := (List.getElem?_eq_some_iff.1 hj).1
    rw [trCells_len] at hlt
    rw [h.cellAt j hlt]; exact hj
  have hsrc : ∀ j u, t.cells[j]? = some u → w.cell? ⟨vb, j, none⟩ = some u := by
    intro j u hj
    exact ht.cell (by simpa [PTr.cells] using hj)
  have hone : ∀ u ∈ t.cells, u.oneCell' = true := by
    intro u hu
    simp only [PTr.cells, List.mem_cons, List.not_mem_nil, or_false] at hu
    rcases hu with rfl | rfl | rfl | rfl | rfl <;> rfl
  have hdl : ((trCells l).drop (i * 5)).length = (l.length - i) * 5 := by rw [List.length_drop, trCells_len, Nat.sub_mul]
  have htl : ((trCells l).take (i * 5)).length = i * 5 := by rw [List.length_take, trCells_len]; omega
  have hold : (Builtin.firstCells i0.size i (.slice (some ⟨g, 0, none⟩) i l.length)).run Tryz.prog w.drew = .ok ((trCells l).take (i * 5)).toArray w.drew := by
    rw [hzs]
    exact run_firstCells_some w.drew 5 i ⟨g, 0, none⟩ i l.length ((trCells l).take (i * 5)) htl (fun j v hj => by
      rw [Addr.add_lit, Nat.zero_add]
      rw [List.getElem?_take] at hj
      split at hj
      · exact hcell j v hj
      · cases hj)
  have hik : i + (l.length + 1 - i) = l.length + 1 := by omega
  obtain ⟨G, hG⟩ : ∃ G, G = grownCap w (l.length + 1) l.length 28 := ⟨_, rfl⟩
  have hGn : l.length + 1 ≤ G := by rw [hG]; exact grownCap_ge w _ _ _
  have hGm : G ≤ maxLen := by rw [hG]; exact grownCap_le_maxLen w (l.length + 1) l.length 28 (by unfold maxLen; omega)
  obtain ⟨ROW, hROW⟩ : ∃ ROW : Array Value, ROW = ((trCells l).take (i * 5)).toArray ++ Builtin.zeroCells (Value.agg #[.int .i64 0, .int .i64 0, .int .i64 0, .int .i64 0, .int .i64 0]).cells (l.length + 1 - i) ++ Builtin.zeroCells (Value.agg #[.int .i64 0, .int .i64 0, .int .i64 0, .int .i64 0, .int .i64 0]).cells (G - (l.length + 1)) := ⟨_, rfl⟩
  have hrz : ∀ ty, (Builtin.append_ #[31, 3] ty #[.slice (some ⟨g, 0, none⟩) i l.length, .int .i64 ((l.length : Int) + 1 - (i : Int))]).run Tryz.prog w =
      .ok (.slice (some ⟨w.heap.size, 0, none⟩) (l.length + 1) G) (w.drew.alloc (.cells ROW 28)) := fun ty => by
    have h9 := Lib.run_append_grow_zeros (P := Tryz.prog) w 31 3 ty 28 i0 _ .i64 .i64 Tryz.underlying31 Tryz.underlying3 hi0 hz0 (some ⟨g, 0, none⟩) i l.length _ hold (l.length + 1 - i) (by omega) (by omega) (by omega) (by omega) (by rw [hzb]; omega) (by rw [hzb, hik]; exact growslice_fits (by omega) (by omega))
    rw [hik] at h9
    rw [show (l.length : Int) + 1 - (i : Int) = ((l.length + 1 - i : Nat) : Int) by omega, hG, hROW, hG]
    exact h9
  have hRs : ROW.size = G * 5 := by
    rw [hROW]
    simp only [Array.size_append, List.size_toArray, htl, Builtin.zeroCells, Array.size_map, Array.size_range]
    have hz5 : (Value.agg #[.int .i64 0, .int .i64 0, .int .i64 0, .int .i64 0, .int .i64 0]).cells.size = 5 := rfl
    rw [hz5, ← Nat.add_mul, ← Nat.add_mul]
    congr 1; omega
  -- the world with the new row
  obtain ⟨W1, hW1⟩ : ∃ W1, W1 = w.drew.alloc (.cells ROW 28) := ⟨_, rfl⟩
  have hHB : Blk W1 w.heap.size ROW 28 := by rw [hW1]; exact Blk.new w.drew ROW 28
  have hbel1 : Below w.heap.size w W1 := by rw [hW1]; exact bel_alloc (Below.refl w.heap.size w).drew _
  have hsz1 : W1.heap.size = w.heap.size + 1 := by rw [hW1]; simp
  have hN : ∀ j, j < G * 5 → (W1.cell? ⟨w.heap.size, j, none⟩).isSome = true := fun j hj => by
    rw [hHB.cell (i := j) (Array.getElem?_eq_getElem (by omega))]; rfl
  have hNf : ∀ j, W1.frozen? ⟨w.heap.size, j, none⟩ = false := fun j => hHB.free j
  have hOb : ∀ j u, (trCells l)[j]? = some u → W1.cell? ⟨g, j, none⟩ = some u := fun j u hj => (hbel1.cell (p := ⟨g, j, none⟩) hgl).trans (hcell j u hj)
  have hOv : ∀ j u, t.cells[j]? = some u → W1.cell? ⟨vb, j, none⟩ = some u := fun j u hj => (hbel1.cell (p := ⟨vb, j, none⟩) hvl).trans (hsrc j u hj)
  have h5 : t.cells.length = 5 := rfl
  have hG5 : (l.length + 1) * 5 ≤ G * 5 := Nat.mul_le_mul_right 5 hGn
  have hcpA : ∀ ty dc, (Builtin.copy_ #[31, 31] ty #[.slice (some ⟨w.heap.size, i * 5, none⟩) (l.length + 1 - i) dc, .slice (some ⟨vb, 0, none⟩) 1 1]).run Tryz.prog W1 = .ok (goInt ((1 : Nat) : Int)) (W1.setCells w.heap.size (i * 5) t.cells) := fun ty dc =>
    run_copy_rows W1 _ _ ty 28 5 w.heap.size (i * 5) (l.length + 1 - i) dc ⟨vb, 0, none⟩ 1 1 1 t.cells Tryz.underlying31 Tryz.trSize (by simp only [Nat.min_def]; split <;> omega) rfl
      (fun j v hj => by rw [Addr.add_lit, Nat.zero_add]; exact hOv j v hj)
      (fun j hj => hN _ (by rw [h5] at hj; omega)) (fun j _ => hNf _) hone
  obtain ⟨W2, hW2⟩ : ∃ W2, W2 = W1.setCells w.heap.size (i * 5) t.cells := ⟨_, rfl⟩
  have hgne : g ≠ w.heap.size := by omega
  have hcpB : ∀ ty dc sc, (Builtin.copy_ #[31, 31] ty #[.slice (some ⟨w.heap.size, (i + 1) * 5, none⟩) (l.length - i) dc, .slice (some ⟨g, i * 5, none⟩) (l.length - i) sc]).run Tryz.prog W2.drew = .ok (goInt ((l.length - i : Nat) : Int)) (W2.drew.setCells w.heap.size ((i + 1) * 5) ((trCells l).drop (i * 5))) := fun ty dc sc =>
    run_copy_rows W2.drew _ _ ty 28 5 w.heap.size ((i + 1) * 5) (l.length - i) dc ⟨g, i * 5, none⟩ (l.length - i) sc (l.length - i) ((trCells l).drop (i * 5)) Tryz.underlying31 Tryz.trSize (by simp only [Nat.min_def]; split <;> omega) hdl
      (fun j v hj => by
        rw [Addr.add_lit]
        show W2.cell? _ = _
        rw [hW2, World.cell?_setCells_out _ _ _ _ _ (fun h _ => absurd h hgne)]
        exact hOb _ v (by rwa [List.getElem?_drop] at hj))
      (fun j hj => by
        show (W2.cell? _).isSome = true
        rw [hW2]
        exact isSome_setCells w.heap.size _ _ W1 (fun j hj => hN (i * 5 + j) (by rw [h5] at hj; omega)) ((i + 1) * 5 + j) (hN _ (by rw [hdl] at hj; omega)))
      (fun j _ => by
        show W2.frozen? _ = false
        rw [hW2, World.frozen?_setCells]; exact hNf _) (fun v hv => tr_one l v (List.mem_of_mem_drop hv))
  have hfin : (W2.drew.setCells w.heap.size ((i + 1) * 5) ((trCells l).drop (i * 5))).ownsRow base 28 5 (.slice (some ⟨w.heap.size, 0, none⟩) (l.length + 1) G) (l.length + 1) (trCells (l.take i ++ t :: l.drop i)) := by
    have r1 := own_row_new (base := base) hb hHB hGn hGm hRs
    have hrl : (ROW.toList.take ((l.length + 1) * 5)).length = (l.length + 1) * 5 := by rw [List.length_take, Array.length_toList (xs := ROW), hRs]; omega
    have hrt : (ROW.toList.take ((l.length + 1) * 5)).take (i * 5) = (trCells l).take (i * 5) := by
      rw [List.take_take, Nat.min_eq_left (by omega), hROW, Array.toList_append, Array.toList_append, List.append_assoc]
      have e9 : ((trCells l).take (i * 5)).toArray.toList = (trCells l).take (i * 5) := rfl
      rw [e9, List.take_append_of_le_length (by rw [htl]; omega), List.take_of_length_le (by rw [htl]; omega)]
    have r2 := own_setL t.cells (o := i * 5) r1
    rw [← hW2] at r2
    have r3 := own_setL (w := W2.drew) ((trCells l).drop (i * 5)) (o := (i + 1) * 5) r2
    rw [setL_eq t.cells _ _ (by rw [hrl, h5]; omega)] at r3
    rw [setL_eq ((trCells l).drop (i * 5)) _ _ (by simp only [List.length_append, List.length_take, List.length_drop, hrl, h5, hdl]; omega)] at r3
    rw [hrt] at r3
    have e1 : ((trCells l).take (i * 5) ++ t.cells ++ (ROW.toList.take ((l.length + 1) * 5)).drop (i * 5 + t.cells.length)).take ((i + 1) * 5) = (trCells l).take (i * 5) ++ t.cells := by
      rw [List.take_append_of_le_length (by rw [List.length_append, htl, h5]; omega), List.take_of_length_le (by rw [List.length_append, htl, h5]; omega)]
    have e2 : ((trCells l).take (i * 5) ++ t.cells ++ (ROW.toList.take ((l.length + 1) * 5)).drop (i * 5 + t.cells.length)).drop ((i + 1) * 5 + ((trCells l).drop (i * 5)).length) = [] := by
      refine List.drop_eq_nil_of_le ?_
      rw [List.length_append, List.length_append, htl, h5, List.length_drop, hrl, hdl]; omega
    rw [e1, e2, List.append_nil, ← ins_cells] at r3
    exact r3
  have hbelf : Below base w (W2.drew.setCells w.heap.size ((i + 1) * 5) ((trCells l).drop (i * 5))) := by
    have f1 : Fr (fun k => k = w.heap.size) w W2 := by rw [hW2]; exact fr_cells (S := fun k => k = w.heap.size) rfl _ (Fr.of_below hbel1)
    exact (fr_cells (S := fun k => k = w.heap.size) rfl _ f1.drew).to_below hb (fun k hk e => by omega)
  rw [← hW1] at hrz
  rw [← hW2] at hcpA
  obtain ⟨W3, hW3⟩ : ∃ W3, W3 = W2.drew.setCells w.heap.size ((i + 1) * 5) ((trCells l).drop (i * 5)) := ⟨_, rfl⟩
  rw [← hW3] at hcpB hfin hbelf
  have HFIN := hid hfin
  have HBEL := hid hbelf
  have mixed : Tryz.prog.follows Departure.mixedOrders = true := by kernel_rfl
  have hz2 : ¬ ((i : Int) = (l.length : Int)) := by omega
  have hz3 : (l.length : Int) < (l.length : Int) + 1 := by omega
  have hw1 : IntKind.i64.wrap ((i : Int) + 1) = (i : Int) + 1 := by rw [IntKind.wrap_i64]; omega
  have hb1 : (0 : Int) ≤ (i : Int) + 1 := by omega
  have hin : i ≤ l.length := by omega
  have htn : ((i : Int) + 1).toNat = i + 1 := by omega
  have hGi : ¬ (G = i) := by omega
  have hGim : ¬ (G = i + 1) := by omega
  have hci : ¬ (l.length = i) := by omega
  have hb3 : (i : Int) ≤ (l.length : Int) := by omega
  clear hW3 hW2 hW1 hfin hbelf hold hROW hG hRs hHB hbel1 hsz1 hN hNf hOb hOv h5 hG5 hcell hsrc hone hdl htl h ht hb hi0 hz0 hzs hzb hik
  go_enter Tryz.func72, Tryz.ntmps72
  go_wp2_with (at_builtin; refine Lib.wpList_append_run _ rfl _ _ _ _ rfl _ _ rfl rfl _ _ (hrz _) ?_)
  go_region_law_o (refine step_copy_runI rfl _ _ 31 31 rfl _ _ (by simp [Act.eval, Act.put]) (by simp [Act.eval, Act.put]) (hcpB _ _ _) ?_)
  go_wp2_with fail
  clear hrz hcpA hcpB
  go_ret
  exact ⟨.slice (some ⟨w.heap.size, 0, none⟩) (l.length + 1) G, rfl, HFIN.out, HBEL.out⟩

/-- A row is put in its place. -/
theorem txInsert {w : World} {base vb i : Nat} {v : Value} {l : List PTr} {t : PTr} (h : w.ownsRow base 28 5 v l.length (trCells l)) (hb : base ≤ w.heap.size) (hi : i ≤ l.length) (hl : l.length ≤ 8)
    (ht : Blk w vb #[.int .i64 t.pid, .int .i64 t.epoch, .int .i64 t.state, .int .i64 t.parts, .int .i64 t.last] 28) (hne : v.ownBlock ≠ some vb) :
    Calls Tryz.prog 72 #[v, .int .i64 i, .slice (some ⟨vb, 0, none⟩) 1 1] w (InsPost w base l i t) := by
  by_cases he : i = l.length
  · subst he
    exact txInsert_end h hb hl ht
  · rcases Joins.ownsRow_forms h with ⟨_, hz⟩ | ⟨g, cap, rfl⟩
    · omega
    · by_cases hr : l.length + 1 ≤ cap
      · exact txInsert_room h hb (by omega) hr ht (fun e => hne (by rw [e]; rfl))
      · exact txInsert_grow h hb (by omega) hr hl ht
end Go.Proofs.YtbnefpdjcbegpaaGreatDoor
