/-
  seglog: Append as a plain function, and what its walk needs. Conditions: texts that fit.
-/
import Derived.Test.YtnibpknhpjcamaaGreatDoorLogY
import Derived.Deep.CutBlock
import Derived.Deep.DeepCutAuto
set_option maxRecDepth 100000
namespace Go.Proofs.YtnibpknhpjcamaaGreatDoor
open Go.RowKit

structure PItem where
  n : Int
  text : List UInt8

def itemCells (l : List PItem) : List Value := l.flatMap fun x => [.int .i64 x.n, .string (bs x.text)]

/-- A slice that reads as so many elements. -/
def Reads (w : World) (v : Value) (n : Nat) (size : Nat) (xs : List Value) : Prop :=
  xs.length = n * size ∧ ∃ ad cap, v = .slice ad n cap ∧ ∀ j u, xs[j]? = some u → ∃ g, ad = some ⟨g, 0, none⟩ ∧ w.cell? ⟨g, j, none⟩ = some u

theorem Reads.of_own {w : World} {base : Nat} {e : TypeId} {size : Nat} {v : Value} {n : Nat} {xs : List Value} (h : w.ownsRow base e size v n xs) : Reads w v n size xs := by
  refine ⟨h.1, ?_⟩
  rcases Joins.ownsRow_forms h with ⟨e, hz⟩ | ⟨g, cap, rfl⟩
  · refine ⟨none, 0, by rw [e, hz], fun j u hj => ?_⟩
    have := (List.getElem?_eq_some_iff.1 hj).1
    rw [h.1, hz] at this
    omega
  · refine ⟨_, cap, rfl, fun j u hj => ⟨g, rfl, ?_⟩⟩
    have hlt := (List.getElem?_eq_some_iff.1 hj).1
    rw [h.1] at hlt
    rw [h.cellAt j hlt]; exact hj

theorem Reads.below {w w' : World} {v : Value} {n size : Nat} {xs : List Value} (h : Reads w v n size xs) (hb : Below w.heap.size w w') : Reads w' v n size xs := by
  obtain ⟨h1, ad, cap, e, hc⟩ := h
  refine ⟨h1, ad, cap, e, fun j u hj => ?_⟩
  obtain ⟨g, eg, hg⟩ := hc j u hj
  exact ⟨g, eg, (hb.cell (World.block_lt_of_cell? w _ hg)).trans hg⟩

theorem itemCells_at : ∀ (l : List PItem) (i : Nat) (x : PItem), l[i]? = some x → (itemCells l)[i * 2]? = some (.int .i64 x.n) ∧ (itemCells l)[i * 2 + 1]? = some (.string (bs x.text))
  | [], i, x, h => by simp at h
  | y :: l, 0, x, h => by
    simp only [List.getElem?_cons_zero, Option.some.injEq] at h
    subst h
    exact ⟨rfl, rfl⟩
  | y :: l, i + 1, x, h => by
    simp only [List.getElem?_cons_succ] at h
    obtain ⟨h1, h2⟩ := itemCells_at l i x h
    have e1 : (i + 1) * 2 = i * 2 + 2 := by omega
    rw [e1]
    exact ⟨h1, h2⟩

/-- The entries that items become: the error, the entries, the offset behind them. -/
def layAll : Int → List PItem → List Ent → Int × List Ent × Int
  | next, [], acc => (0, acc, next)
  | next, x :: r, acc => if (Ent.mk next x.n x.text).ok then (if 1099511627776 - next < x.n then (6, [], 0) else layAll (next + x.n) r (acc ++ [⟨next, x.n, x.text⟩])) else (1, [], 0)

theorem Tryz.infoStr : (Tryz.prog.info? 9).map (fun i => (i.zero, i.size, i.bytes)) = some (some (.string ⟨#[]⟩), 1, 16) := by kernel_rfl

def layCells (l : List Ent) : List Value := l.map fun e => .string (bs e.lay)

theorem rows_apart {w : World} {b1 b2 : Nat} {e1 e2 : TypeId} {s1 s2 : Nat} {v1 v2 : Value} {n1 n2 : Nat} {x1 x2 : List Value} (h1 : w.ownsRow b1 e1 s1 v1 n1 x1) (h2 : w.ownsRow b2 e2 s2 v2 n2 x2) (hne : e1 ≠ e2) : v1.ownBlock = none ∨ v1.ownBlock ≠ v2.ownBlock := by
  cases hv : v1.ownBlock with
  | none => exact .inl rfl
  | some b =>
    refine .inr fun e => ?_
    obtain ⟨c, fz, hc⟩ := Lib.ownsRow_kind h1 b hv
    obtain ⟨c', fz', hc'⟩ := Lib.ownsRow_kind h2 b e.symm
    rw [hc] at hc'
    simp only [Option.some.injEq, Obj.cells.injEq] at hc'
    exact hne hc'.2.1

/-- Between two rounds of Append's first loop. -/
def AppRel (B : Nat) (w : World) (next : Int) (its : List PItem) (c ve vt nx : Value) (wr : World) : Prop :=
  ∃ (k : Nat) (acc : List Ent) (n : Int) (v1 v2 : Value), k ≤ its.length ∧ c = .int .i64 k ∧ v1 = ve ∧ v2 = vt ∧ nx = .int .i64 n ∧ acc.length = k ∧ layAll next its [] = layAll n (its.drop k) acc ∧ (∀ e ∈ acc, e.ok) ∧ 0 ≤ n ∧ n ≤ 1099511627776 ∧
    wr.ownsRow B 37 3 v1 k (entCells acc) ∧ wr.ownsRow B 9 1 v2 k (layCells acc) ∧ Below B w wr

/-- A segment's notes of entries. -/
def PSeg.tookAll (x : PSeg) (l : List Ent) : PSeg := l.foldl (fun x e => x.took e.base e.lay.length) x
def layText (l : List Ent) : List UInt8 := l.flatMap Ent.lay

def headBase : List Ent → Int
  | [] => 0
  | e :: _ => e.base

/-- The entries are put: into the segment x, or into a new one. -/
def PLog.put (L : PLog) (D : PDisk) (x : PSeg) (before : List PSeg) (ents : List Ent) (nx : Int) : PLog × PDisk × Int × Int :=
  let r := D.append (segName L.name x.base) (layText ents)
  if r.2 = 5 then (L, r.1, 0, 5) else if r.2 ≠ 0 then ({ L with e := r.2 }, r.1, 0, r.2)
  else ({ L with e := 0, segs := before ++ [x.tookAll ents], next := nx }, r.1, headBase ents, 0)

def PLog.appendE (L : PLog) (D : PDisk) (ents : List Ent) (nx : Int) : PLog × PDisk × Int × Int :=
  match L.act with
  | some x => L.put D x L.segs.dropLast ents nx
  | none =>
    if L.segs = [] then L.put D ⟨L.next, 0, 0, []⟩ [] ents nx
    else
      let r := L.sync D
      if r.2.2 ≠ 0 then (r.1, r.2.1, 0, r.2.2) else r.1.put r.2.1 ⟨L.next, 0, 0, []⟩ L.segs ents nx

def PLog.append (L : PLog) (D : PDisk) (its : List PItem) : PLog × PDisk × Int × Int :=
  if its = [] then (L, D, 0, 1) else if L.e ≠ 0 then (L, D, 0, L.e)
  else if (layAll L.next its []).1 ≠ 0 then (L, D, 0, (layAll L.next its []).1)
  else L.appendE D (layAll L.next its []).2.1 (layAll L.next its []).2.2

/-- What Append leaves. -/
def AppPost (w : World) (l d : Nat) (S SD : Nat → Prop) (r : PLog × PDisk × Int × Int) (e : Ending) (w' : World) : Prop :=
  e = .returned (.tuple #[.int .i64 r.2.2.1, .int .i64 r.2.2.2]) ∧ LogTo w w' l d S SD r.1 r.2.1

theorem PLog.append_err {L : PLog} {D : PDisk} {its : List PItem} (hne : its ≠ []) (he : L.e = 0) (h : (layAll L.next its []).1 ≠ 0) : L.append D its = (L, D, 0, (layAll L.next its []).1) := by
  unfold PLog.append; rw [if_neg hne, if_neg (by rw [he]; decide), if_pos h]
theorem PLog.append_ok {L : PLog} {D : PDisk} {its : List PItem} {ents : List Ent} {nx : Int} (hne : its ≠ []) (he : L.e = 0) (h : layAll L.next its [] = (0, ents, nx)) : L.append D its = L.appendE D ents nx := by
  unfold PLog.append; rw [if_neg hne, if_neg (by rw [he]; decide), h, if_neg (fun h => h rfl)]

theorem layText_len (acc : List Ent) (hok : ∀ e ∈ acc, e.ok) : (layText acc).length ≤ acc.length * 65636 := by
  induction acc with
  | nil => simp [layText]
  | cons e l ih =>
    have h1 := Ent.lay_len e (hok e (by simp))
    have h2 := ih (fun x hx => hok x (by simp [hx]))
    unfold layText at *
    rw [List.flatMap_cons, List.length_append, List.length_cons]
    omega

theorem tookAll_snoc (x : PSeg) (l : List Ent) (e : Ent) : x.tookAll (l ++ [e]) = (x.tookAll l).took e.base e.lay.length := by
  unfold PSeg.tookAll; rw [List.foldl_append]; rfl

theorem took_marks (x : PSeg) (b n : Int) : (x.took b n).marks.length ≤ x.marks.length + 1 ∧ ∀ y ∈ (x.took b n).marks, y ∈ x.marks ∨ y.pos = x.bytes := by
  unfold PSeg.took
  simp only
  split
  · refine ⟨by simp, fun y hy => ?_⟩
    rcases List.mem_append.1 hy with h | h
    · exact .inl h
    · simp at h; rw [h]; exact .inr rfl
  · exact ⟨by omega, fun y hy => .inl hy⟩

theorem snoc_ind {α : Type} {M : List α → Prop} (h0 : M []) (hs : ∀ l e, M l → M (l ++ [e])) (l : List α) : M l := by
  have h : ∀ r : List α, M r.reverse := by
    intro r
    induction r with
    | nil => exact h0
    | cons e r ih => rw [List.reverse_cons]; exact hs _ _ ih
  simpa using h l.reverse

/-- The numbers of a segment, whatever entries it takes. -/
theorem tookAll_num (x : PSeg) (l : List Ent) (hok : ∀ e ∈ l, e.ok) (h0 : 0 ≤ x.bytes) (hp : ∀ y ∈ x.marks, 0 ≤ y.pos ∧ y.pos ≤ x.bytes) :
    (x.tookAll l).base = x.base ∧ x.bytes ≤ (x.tookAll l).bytes ∧ (x.tookAll l).bytes ≤ x.bytes + l.length * 65636 ∧ (x.tookAll l).entries = x.entries + l.length ∧ (x.tookAll l).marks.length ≤ x.marks.length + l.length ∧
      ∀ y ∈ (x.tookAll l).marks, 0 ≤ y.pos ∧ y.pos ≤ (x.tookAll l).bytes := by
  induction l using snoc_ind with
  | h0 => exact ⟨rfl, Int.le_refl _, by simp [PSeg.tookAll], by simp [PSeg.tookAll], by simp [PSeg.tookAll], hp⟩
  | hs l e ih =>
    obtain ⟨h1, h2, h3, h4, h5, h6⟩ := ih (fun y hy => hok y (by simp [hy]))
    have hl := Ent.lay_len e (hok e (by simp))
    rw [tookAll_snoc]
    obtain ⟨m1, m2⟩ := took_marks (x.tookAll l) e.base e.lay.length
    have hb : ((x.tookAll l).took e.base e.lay.length).bytes = (x.tookAll l).bytes + e.lay.length := rfl
    have he : ((x.tookAll l).took e.base e.lay.length).entries = (x.tookAll l).entries + 1 := rfl
    refine ⟨h1, by rw [hb]; omega, ?_, ?_, ?_, fun y hy => ?_⟩
    · rw [hb]; simp only [List.length_append, List.length_singleton]; omega
    · rw [he, h4]; simp only [List.length_append, List.length_singleton]; omega
    · simp only [List.length_append, List.length_singleton]; omega
    · rw [hb]
      rcases m2 y hy with h | h
      · have := h6 y h; omega
      · rw [h]; omega

end Go.Proofs.YtnibpknhpjcamaaGreatDoor
