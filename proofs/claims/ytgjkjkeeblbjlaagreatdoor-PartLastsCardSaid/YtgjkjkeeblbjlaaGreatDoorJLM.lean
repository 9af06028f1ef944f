/-
  Chapter 8's arguments that came in, opened: batches, deeds. No conditions.
-/
import Derived.Test.YtgjkjkeeblbjlaaGreatDoorJJM
import Derived.Test.YtgjkjkeeblbjlaaGreatDoorGIM
import Derived.Deep.Slices
import Derived.Deep.Fields
import Derived.ChangeSame
set_option maxRecDepth 100000
namespace Go.Proofs.YtgjkjkeeblbjlaaGreatDoor
open Go.ChangeShapes Go.WideShapes Go.ChangeAt Go.RowKit Go.Joins Go.Deep

section
variable {H : Type} {enc : TypeId × Value → H} {P : Program} {w : World} {base : Nat} {spare : Nat → Bool} {held : Bool}

theorem field_trod {fs : Array Field} {n : Nat} {cs : List Value} {xs : List (DataW H × List MemPlace)} (hx : ∀ (i : Nat) (f : Field), fs[i]? = some f → DataW.trod enc P w base spare held n f.type ((cs.drop f.offset).take (P.cellsOf f.type)) = xs[i]?) (hl : xs.length = fs.size)
    {i : Nat} {f : Field} (hf : fs[i]? = some f) {k : Nat} (hk : P.cellsOf f.type = k) : ∃ y, DataW.trod enc P w base spare held n f.type ((cs.drop f.offset).take k) = some y := by
  have h := hx i f hf
  have hlt := (Array.getElem?_eq_some_iff.1 hf).1
  rw [hk, List.getElem?_eq_getElem (by omega)] at h
  exact ⟨_, h⟩
end

section
variable {H : Type} {enc : TypeId × Value → H} {w : World} {spare : Nat → Bool} {held : Bool}

theorem cells_int : Tryz.prog.cellsOf 3 = 1 := by kernel_rfl
theorem cells_bool : Tryz.prog.cellsOf 4 = 1 := by kernel_rfl
theorem cells_string : Tryz.prog.cellsOf 9 = 1 := by kernel_rfl
theorem cells_recs : Tryz.prog.cellsOf 29 = 1 := by kernel_rfl
theorem cells_ints : Tryz.prog.cellsOf 47 = 1 := by kernel_rfl
theorem cells_batch : Tryz.prog.cellsOf 31 = 5 := by kernel_rfl
theorem cells_pdeed : Tryz.prog.cellsOf 49 = 10 := by kernel_rfl

theorem in_recs {fuel : Nat} {v : Value} {x : DataW H × List MemPlace} (h : DataW.trod enc Tryz.prog w 0 spare held fuel 29 [v] = some x) : ∃ l : List PRec, InRecs w v l ∧ ∀ y ∈ l, y.text.length ≤ maxLen := by
  rcases open_slice_fields Tryz.underlying29 Tryz.underlying36 (by kernel_rfl) (by kernel_rfl) h with ⟨hv, _⟩ | ⟨a, len, cap, m, hv, hl, hc, hm, hi⟩
  · injection hv with hv
    exact ⟨[], ⟨none, 0, hv, by simp, by unfold maxLen; omega, fun j u hj => by simp [recCells] at hj⟩, fun y hy => by cases hy⟩
  · injection hv with hv
    obtain ⟨its, h1, h2⟩ := list_of (p := fun i (y : PRec) => (∀ r u, y.cells[r]? = some u → w.cell? (a.add (i * 3 + r)) = some u) ∧ y.text.length ≤ maxLen) len (fun i hi' => by
      obtain ⟨ys, n, hf⟩ := hi i (by omega)
      obtain ⟨v0, y0, c0, _, t0⟩ := hf 0 _ rfl
      obtain ⟨v1, y1, c1, _, t1⟩ := hf 1 _ rfl
      obtain ⟨v2, y2, c2, _, t2⟩ := hf 2 _ rfl
      obtain ⟨z0, e0, _, _⟩ := DataW.trod_int Tryz.underlying3 t0
      obtain ⟨z1, e1, _, _⟩ := DataW.trod_int Tryz.underlying3 t1
      obtain ⟨s, e2, _, hs⟩ := DataW.trod_string Tryz.underlying9 t2
      injection e0 with e0
      injection e1 with e1
      injection e2 with e2
      subst e0 e1 e2
      refine ⟨⟨z0, z1, tl s⟩, fun r u hu => ?_, ?_⟩
      · have hr9 : r < 3 := (List.getElem?_eq_some_iff.1 hu).1
        match r, hr9 with
        | 0, _ => simp [PRec.cells] at hu; subst hu; exact c0
        | 1, _ => simp [PRec.cells] at hu; subst hu; exact c1
        | 2, _ => simp [PRec.cells, bs_tl] at hu; subst hu; exact c2
      · show s.data.toList.length ≤ maxLen
        simpa using hs)
    subst h1
    refine ⟨its, ⟨some a, cap, hv, hl, hc, fun j u hj => ⟨a, rfl, ?_⟩⟩, fun y hy => ?_⟩
    · obtain ⟨i, r, y, g1, g2, g3, g4⟩ := flat_at (f := PRec.cells) (c := 3) (fun _ => rfl) its j u hj
      subst g2
      exact (h2 i y g1).1 r u g4
    · obtain ⟨i, hi'⟩ := List.getElem?_of_mem hy
      exact (h2 i y hi').2

theorem list5 {α : Type} {l : List α} (h : l.length = 5) : ∃ c0 c1 c2 c3 c4, l = [c0, c1, c2, c3, c4] := by
  match l, h with
  | [c0, c1, c2, c3, c4], _ => exact ⟨c0, c1, c2, c3, c4, rfl⟩
theorem list10 {α : Type} {l : List α} (h : l.length = 10) : ∃ c0 c1 c2 c3 c4 c5 c6 c7 c8 c9, l = [c0, c1, c2, c3, c4, c5, c6, c7, c8, c9] := by
  match l, h with
  | [c0, c1, c2, c3, c4, c5, c6, c7, c8, c9], _ => exact ⟨c0, c1, c2, c3, c4, c5, c6, c7, c8, c9, rfl⟩

set_option maxHeartbeats 1000000 in
/-- A batch's cells. -/
theorem in_bat {fuel : Nat} {cs : List Value} {x : DataW H × List MemPlace} (h : DataW.trod enc Tryz.prog w 0 spare held fuel 31 cs = some x) :
    ∃ (b : PBat) (B : Value), cs = [.int .i64 b.kind, .int .i64 b.pid, .int .i64 b.epoch, .int .i64 b.seq, B] ∧ InRecs w B b.l ∧ ∀ r ∈ b.l, r.text.length ≤ maxLen := by
  obtain ⟨xs, n, _, _, hl, hlen, hx⟩ := DataW.trod_struct Tryz.underlying31 h
  rw [cells_batch] at hl
  obtain ⟨c0, c1, c2, c3, c4, rfl⟩ := list5 hl
  obtain ⟨_, t0⟩ := field_trod hx hlen (i := 0) rfl cells_int
  obtain ⟨_, t1⟩ := field_trod hx hlen (i := 1) rfl cells_int
  obtain ⟨_, t2⟩ := field_trod hx hlen (i := 2) rfl cells_int
  obtain ⟨_, t3⟩ := field_trod hx hlen (i := 3) rfl cells_int
  obtain ⟨_, t4⟩ := field_trod hx hlen (i := 4) rfl cells_recs
  obtain ⟨z0, e0, _⟩ := DataW.trod_int Tryz.underlying3 t0
  obtain ⟨z1, e1, _⟩ := DataW.trod_int Tryz.underlying3 t1
  obtain ⟨z2, e2, _⟩ := DataW.trod_int Tryz.underlying3 t2
  obtain ⟨z3, e3, _⟩ := DataW.trod_int Tryz.underlying3 t3
  obtain ⟨l, hrec, htx⟩ := in_recs (v := c4) t4
  simp at e0 e1 e2 e3
  subst e0 e1 e2 e3
  exact ⟨⟨z0, z1, z2, z3, l⟩, c4, rfl, hrec, htx⟩

set_option maxHeartbeats 1000000 in
/-- A deed's cells. -/
theorem in_pd {fuel : Nat} {cs : List Value} {x : DataW H × List MemPlace} (h : DataW.trod enc Tryz.prog w 0 spare held fuel 49 cs = some x) :
    ∃ y : PDCell, cs = pdCells y.d y.B y.K ∧ y.reads w := by
  obtain ⟨xs, n, _, _, hl, hlen, hx⟩ := DataW.trod_struct Tryz.underlying49 h
  rw [cells_pdeed] at hl
  obtain ⟨c0, c1, c2, c3, c4, c5, c6, c7, c8, c9, rfl⟩ := list10 hl
  obtain ⟨_, t0⟩ := field_trod hx hlen (i := 0) rfl cells_int
  obtain ⟨_, t1⟩ := field_trod hx hlen (i := 1) rfl cells_int
  obtain ⟨_, t2⟩ := field_trod hx hlen (i := 2) rfl cells_int
  obtain ⟨_, t3⟩ := field_trod hx hlen (i := 3) rfl cells_bool
  obtain ⟨_, t4⟩ := field_trod hx hlen (i := 4) rfl cells_batch
  obtain ⟨_, t5⟩ := field_trod hx hlen (i := 5) rfl cells_ints
  obtain ⟨z0, e0, _⟩ := DataW.trod_int Tryz.underlying3 t0
  obtain ⟨z1, e1, _⟩ := DataW.trod_int Tryz.underlying3 t1
  obtain ⟨z2, e2, _⟩ := DataW.trod_int Tryz.underlying3 t2
  obtain ⟨b3, e3, _⟩ := DataW.trod_bool Tryz.underlying4 t3
  obtain ⟨b, B, e4, hrec, htx⟩ := in_bat t4
  obtain ⟨keep, hkeep⟩ := in_ints (v := c9) t5
  have e4' : [c4, c5, c6, c7, c8] = [.int .i64 b.kind, .int .i64 b.pid, .int .i64 b.epoch, .int .i64 b.seq, B] := e4
  simp at e0 e1 e2 e3 e4'
  obtain ⟨rfl, rfl, rfl, rfl, rfl⟩ := e4'
  subst e0 e1 e2 e3
  exact ⟨⟨⟨z0, z1, z2, b3, b, keep⟩, c8, c9⟩, rfl, hrec, htx, hkeep⟩

set_option maxHeartbeats 1000000 in
theorem in_deeds {fuel : Nat} {v : Value} {x : DataW H × List MemPlace} (h : DataW.trod enc Tryz.prog w 0 spare held fuel 22 [v] = some x) : ∃ l, InPDeeds w v l := by
  rcases open_slice Tryz.underlying22 h with ⟨hv, _⟩ | ⟨a, len, cap, m, n, D, Pl, hv, hb, hl, hc, hm, hx, hi⟩
  · injection hv with hv
    exact ⟨[], [], rfl, ⟨rfl, none, 0, hv, by simp, by unfold maxLen; omega, fun j u hj => by simp [pdsCells] at hj⟩, fun y hy => by cases hy⟩
  · injection hv with hv
    rw [cells_pdeed] at hi
    obtain ⟨q, h1, h2⟩ := list_of (p := fun i (y : PDCell) => (∀ r u, (pdCells y.d y.B y.K)[r]? = some u → w.cell? (a.add (i * 10 + r)) = some u) ∧ y.reads w) len (fun i hi' => by
      obtain ⟨cs, hcs, ht⟩ := hi i (by rw [hm]; split <;> omega)
      obtain ⟨_, hcl, hat⟩ := World.cells?_some hcs
      obtain ⟨y, rfl, hy⟩ := in_pd ht
      refine ⟨y, fun r u hu => ?_, hy⟩
      have hr9 : r < 10 := (List.getElem?_eq_some_iff.1 hu).1
      rw [← Go.Deep.add_add, hat r hr9]
      exact hu)
    subst h1
    refine ⟨q.map PDCell.d, q, rfl, ⟨pds_len q, some a, cap, hv, hl, hc, fun j u hj => ⟨a, rfl, ?_⟩⟩, fun y hy => ?_⟩
    · obtain ⟨i, r, y, g1, g2, g3, g4⟩ := flat_at (f := fun (x : PDCell) => pdCells x.d x.B x.K) (c := 10) (fun _ => rfl) q j u hj
      subst g2
      exact (h2 i y g1).1 r u g4
    · obtain ⟨i, hi'⟩ := List.getElem?_of_mem hy
      exact (h2 i y hi').2

/-- A batch by value. -/
theorem in_batch {r : Reach} {b0 : Nat} {v : Value} {d : DataW H} {p : List MemPlace} (hv : Value.okWide Tryz.prog w r b0 31 v) (h : DataW.Trod enc Tryz.prog w 0 spare held 31 v d p) :
    ∃ (b : PBat) (B : Value), v = b.val B ∧ InRecs w B b.l ∧ ∀ r ∈ b.l, r.text.length ≤ maxLen := by
  obtain ⟨cs, rfl, hsz⟩ := okWide_struct Tryz.underlying31 hv
  obtain ⟨fuel, hf⟩ := h
  obtain ⟨b, B, e, h1, h2⟩ := in_bat hf
  refine ⟨b, B, ?_, h1, h2⟩
  have e2 : cs.toList = [.int .i64 b.kind, .int .i64 b.pid, .int .i64 b.epoch, .int .i64 b.seq, B] := e
  have e3 : cs = #[.int .i64 b.kind, .int .i64 b.pid, .int .i64 b.epoch, .int .i64 b.seq, B] := by
    apply Array.ext'
    exact e2
  rw [e3]
  rfl

/-- A deed by value. -/
theorem in_deed {r : Reach} {b0 : Nat} {v : Value} {d : DataW H} {p : List MemPlace} (hv : Value.okWide Tryz.prog w r b0 49 v) (h : DataW.Trod enc Tryz.prog w 0 spare held 49 v d p) :
    ∃ y : PDCell, v = .agg (pdCells y.d y.B y.K).toArray ∧ y.reads w := by
  obtain ⟨cs, rfl, hsz⟩ := okWide_struct Tryz.underlying49 hv
  obtain ⟨fuel, hf⟩ := h
  obtain ⟨y, e, hy⟩ := in_pd hf
  refine ⟨y, ?_, hy⟩
  have e2 : cs.toList = pdCells y.d y.B y.K := e
  rw [← e2]
end
end Go.Proofs.YtgjkjkeeblbjlaaGreatDoor
