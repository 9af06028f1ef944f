/-
  Chapter 11's deeds that came in, opened. No conditions.
-/
import Derived.Test.YtjodkcjlipecdaaGreatDoorGYM
import Derived.Test.YtjodkcjlipecdaaGreatDoorGIM
import Derived.Deep.Slices
import Derived.Deep.Fields
import Derived.ChangeSame
set_option maxRecDepth 100000
namespace Go.Proofs.YtjodkcjlipecdaaGreatDoor
open Go.ChangeShapes Go.WideShapes Go.ChangeAt Go.RowKit Go.Joins Go.Deep

theorem wf_rng {n : Int} (h : (Lit.int .i64 n).wf = true) : -9223372036854775808 ≤ n ∧ n ≤ 9223372036854775807 := by
  simp only [Lit.wf, IntKind.min, IntKind.max, IntKind.signed, IntKind.bits, Bool.and_eq_true, decide_eq_true_eq, if_true] at h
  omega

section
variable {H : Type} {enc : TypeId × Value → H} {w : World} {spare : Nat → Bool} {held : Bool}

set_option maxHeartbeats 1000000 in
theorem in_deeds {fuel : Nat} {v : Value} {x : DataW H × List MemPlace} (h : DataW.trod enc Tryz.prog w 0 spare held fuel 61 [v] = some x) : ∃ l, InODeeds w v l := by
  rcases open_slice_fields Tryz.underlying61 Tryz.underlying68 (by kernel_rfl) (by kernel_rfl) h with ⟨hv, _⟩ | ⟨a, len, cap, m, hv, hl, hc, hm, hi⟩
  · injection hv with hv
    exact ⟨[], [], rfl, ⟨rfl, none, 0, hv, by simp, by unfold maxLen; omega, fun j u hj => by simp [odsCells] at hj⟩, fun y hy => by cases hy⟩
  · injection hv with hv
    obtain ⟨q, h1, h2⟩ := list_of (p := fun i (y : OCell) => (∀ r u, (odCells y.d y.K)[r]? = some u → w.cell? (a.add (i * 9 + r)) = some u) ∧ InRow w y.K y.d.keep.length 1 (keepCells y.d.keep) ∧ y.d.fits) len (fun i hi' => by
      obtain ⟨ys, n, hf⟩ := hi i (by omega)
      obtain ⟨v0, y0, c0, _, t0⟩ := hf 0 _ rfl
      obtain ⟨v1, y1, c1, _, t1⟩ := hf 1 _ rfl
      obtain ⟨v2, y2, c2, _, t2⟩ := hf 2 _ rfl
      obtain ⟨v3, y3, c3, _, t3⟩ := hf 3 _ rfl
      obtain ⟨v4, y4, c4, _, t4⟩ := hf 4 _ rfl
      obtain ⟨v5, y5, c5, _, t5⟩ := hf 5 _ rfl
      obtain ⟨v6, y6, c6, _, t6⟩ := hf 6 _ rfl
      obtain ⟨v7, y7, c7, _, t7⟩ := hf 7 _ rfl
      obtain ⟨v8, y8, c8, _, t8⟩ := hf 8 _ rfl
      obtain ⟨z0, e0, _, g0⟩ := DataW.trod_int Tryz.underlying3 t0
      obtain ⟨z1, e1, _, g1⟩ := DataW.trod_int Tryz.underlying3 t1
      obtain ⟨z2, e2, _, g2⟩ := DataW.trod_int Tryz.underlying3 t2
      obtain ⟨z3, e3, _, g3⟩ := DataW.trod_int Tryz.underlying3 t3
      obtain ⟨z4, e4, _, g4⟩ := DataW.trod_int Tryz.underlying3 t4
      obtain ⟨z5, e5, _, g5⟩ := DataW.trod_int Tryz.underlying3 t5
      obtain ⟨b6, e6, _⟩ := DataW.trod_bool Tryz.underlying4 t6
      obtain ⟨b7, e7, _⟩ := DataW.trod_bool Tryz.underlying4 t7
      obtain ⟨keep, hkeep⟩ := in_ints t8
      injection e0 with e0
      injection e1 with e1
      injection e2 with e2
      injection e3 with e3
      injection e4 with e4
      injection e5 with e5
      injection e6 with e6
      injection e7 with e7
      subst e0 e1 e2 e3 e4 e5 e6 e7
      refine ⟨⟨⟨z0, z1, z2, z3, z4, z5, b6, b7, keep⟩, v8⟩, fun r u hu => ?_, hkeep, wf_rng g4, wf_rng g5⟩
      have hr9 : r < 9 := (List.getElem?_eq_some_iff.1 hu).1
      match r, hr9 with
      | 0, _ => simp [odCells] at hu; subst hu; exact c0
      | 1, _ => simp [odCells] at hu; subst hu; exact c1
      | 2, _ => simp [odCells] at hu; subst hu; exact c2
      | 3, _ => simp [odCells] at hu; subst hu; exact c3
      | 4, _ => simp [odCells] at hu; subst hu; exact c4
      | 5, _ => simp [odCells] at hu; subst hu; exact c5
      | 6, _ => simp [odCells] at hu; subst hu; exact c6
      | 7, _ => simp [odCells] at hu; subst hu; exact c7
      | 8, _ => simp [odCells] at hu; subst hu; exact c8)
    subst h1
    refine ⟨q.map OCell.d, q, rfl, ⟨ods_len q, some a, cap, hv, hl, hc, fun j u hj => ⟨a, rfl, ?_⟩⟩, fun y hy => ?_⟩
    · obtain ⟨i, r, y, g1, g2, g3, g4⟩ := flat_at (f := fun (x : OCell) => odCells x.d x.K) (c := 9) (fun _ => rfl) q j u hj
      subst g2
      exact (h2 i y g1).1 r u g4
    · obtain ⟨i, hi'⟩ := List.getElem?_of_mem hy
      exact (h2 i y hi').2
end
end Go.Proofs.YtjodkcjlipecdaaGreatDoor
