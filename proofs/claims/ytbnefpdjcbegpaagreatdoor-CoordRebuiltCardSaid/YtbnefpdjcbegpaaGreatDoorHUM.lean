/-
  Chapter 13's deeds that came in, opened. No conditions.
-/
import Derived.Test.YtbnefpdjcbegpaaGreatDoorHRM
import Derived.Test.YtbnefpdjcbegpaaGreatDoorGIM
import Derived.Deep.Slices
import Derived.Deep.Fields
import Derived.ChangeSame
set_option maxRecDepth 100000
namespace Go.Proofs.YtbnefpdjcbegpaaGreatDoor
open Go.ChangeShapes Go.WideShapes Go.ChangeAt Go.RowKit Go.Joins Go.Deep

section
variable {H : Type} {enc : TypeId × Value → H} {w : World} {spare : Nat → Bool} {held : Bool}

set_option maxHeartbeats 1000000 in
theorem in_deeds {fuel : Nat} {v : Value} {x : DataW H × List MemPlace} (h : DataW.trod enc Tryz.prog w 0 spare held fuel 22 [v] = some x) : ∃ l, InCDeeds w v l := by
  rcases open_slice_fields Tryz.underlying22 Tryz.underlying49 (by kernel_rfl) (by kernel_rfl) h with ⟨hv, _⟩ | ⟨a, len, cap, m, hv, hl, hc, hm, hi⟩
  · injection hv with hv
    exact ⟨[], [], rfl, ⟨rfl, none, 0, hv, by simp, by unfold maxLen; omega, fun j u hj => by simp [cdsCells] at hj⟩, fun y hy => by cases hy⟩
  · injection hv with hv
    obtain ⟨q, h1, h2⟩ := list_of (p := fun i (y : CCell) => (∀ r u, (cdCells y.d y.K)[r]? = some u → w.cell? (a.add (i * 7 + r)) = some u) ∧ InRow w y.K y.d.keep.length 1 (keepCells y.d.keep) ∧ y.d.fits) len (fun i hi' => by
      obtain ⟨ys, n, hf⟩ := hi i (by omega)
      obtain ⟨v0, y0, c0, _, t0⟩ := hf 0 _ rfl
      obtain ⟨v1, y1, c1, _, t1⟩ := hf 1 _ rfl
      obtain ⟨v2, y2, c2, _, t2⟩ := hf 2 _ rfl
      obtain ⟨v3, y3, c3, _, t3⟩ := hf 3 _ rfl
      obtain ⟨v4, y4, c4, _, t4⟩ := hf 4 _ rfl
      obtain ⟨v5, y5, c5, _, t5⟩ := hf 5 _ rfl
      obtain ⟨v6, y6, c6, _, t6⟩ := hf 6 _ rfl
      obtain ⟨z0, e0, _⟩ := DataW.trod_int Tryz.underlying3 t0
      obtain ⟨z1, e1, _⟩ := DataW.trod_int Tryz.underlying3 t1
      obtain ⟨z2, e2, _⟩ := DataW.trod_int Tryz.underlying3 t2
      obtain ⟨z3, e3, _⟩ := DataW.trod_int Tryz.underlying3 t3
      obtain ⟨b4, e4, _⟩ := DataW.trod_bool Tryz.underlying4 t4
      obtain ⟨b5, e5, _⟩ := DataW.trod_bool Tryz.underlying4 t5
      obtain ⟨keep, hkeep⟩ := in_ints t6
      injection e0 with e0
      injection e1 with e1
      injection e2 with e2
      injection e3 with e3
      injection e4 with e4
      injection e5 with e5
      subst e0 e1 e2 e3 e4 e5
      refine ⟨⟨⟨z0, z1, z2, z3, b4, b5, keep⟩, v6⟩, fun r u hu => ?_, hkeep, trivial⟩
      have hr9 : r < 7 := (List.getElem?_eq_some_iff.1 hu).1
      match r, hr9 with
      | 0, _ => simp [cdCells] at hu; subst hu; exact c0
      | 1, _ => simp [cdCells] at hu; subst hu; exact c1
      | 2, _ => simp [cdCells] at hu; subst hu; exact c2
      | 3, _ => simp [cdCells] at hu; subst hu; exact c3
      | 4, _ => simp [cdCells] at hu; subst hu; exact c4
      | 5, _ => simp [cdCells] at hu; subst hu; exact c5
      | 6, _ => simp [cdCells] at hu; subst hu; exact c6)
    subst h1
    refine ⟨q.map CCell.d, q, rfl, ⟨cds_len q, some a, cap, hv, hl, hc, fun j u hj => ⟨a, rfl, ?_⟩⟩, fun y hy => ?_⟩
    · obtain ⟨i, r, y, g1, g2, g3, g4⟩ := flat_at (f := fun (x : CCell) => cdCells x.d x.K) (c := 7) (fun _ => rfl) q j u hj
      subst g2
      exact (h2 i y g1).1 r u g4
    · obtain ⟨i, hi'⟩ := List.getElem?_of_mem hy
      exact (h2 i y hi').2
end
end Go.Proofs.YtbnefpdjcbegpaaGreatDoor
