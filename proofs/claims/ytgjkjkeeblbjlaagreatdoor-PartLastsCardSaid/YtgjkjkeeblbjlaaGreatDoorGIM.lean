/-
  A slice that came in, read. No conditions.
  What a law's row asks behind the call, from 'nothing that was there has turned'.
  Arguments that came in, opened: items, numbers. No conditions.
  A world for the rows' witnesses: the two tables of the library lie in it.
-/
import Derived.Test.YtgjkjkeeblbjlaaGreatDoorGDM
import Derived.Test.YtgjkjkeeblbjlaaGreatDoorGAM
import Derived.Test.YtgjkjkeeblbjlaaGreatDoorRows
import Derived.ProofKit
import Derived.WalkKit
import Derived.OpenShut
import Derived.Deep.DeepHandedRow
import Derived.Lib.LaidTab
import Derived.Lib.SmallJoins
import Derived.Deep.Slices
import Derived.Deep.Fields
import Derived.ChangeSame
set_option maxRecDepth 100000
namespace Go.Proofs.YtgjkjkeeblbjlaaGreatDoor
open Go.RowKit

/-- A slice that came in, read. -/
def InRow (w : World) (v : Value) (n size : Nat) (xs : List Value) : Prop :=
  xs.length = n * size ∧ ∃ ad cap, v = .slice ad n cap ∧ n ≤ cap ∧ cap ≤ maxLen ∧ ∀ j u, xs[j]? = some u → ∃ a, ad = some a ∧ w.cell? (a.add j) = some u
def keepCells (l : List Int) : List Value := l.map fun z => .int .i64 z
end Go.Proofs.YtgjkjkeeblbjlaaGreatDoor

namespace Go.Proofs.YtgjkjkeeblbjlaaGreatDoor
open Go.ChangeShapes Go.WideShapes Go.ChangeAt Go.RowKit

theorem Tryz.own : ownKnob Tryz.prog.godebug = none := by kernel_rfl
theorem Tryz.laidOut : laidOutB Tryz.prog = true := by kernel_rfl

/-- Arguments read as they did. -/
theorem args_below {H : Type} {enc : TypeId × Value → H} {W W' : World} (hb : Below W.heap.size W W') : ∀ {ts : List TypeId} {vs : List Value} {ds : List (DataW H)} {ps : List MemPlace},
    (∀ t ∈ ts, Tryz.prog.readableRec t = true ∧ t < Tryz.prog.types.size) → DataW.TrodAll enc Tryz.prog W 0 (fun _ => true) true ts vs ds ps →
    DataW.TrodAll enc Tryz.prog W' 0 (fun b => decide (b < W.heap.size)) true ts vs ds ps
  | [], _, _, _, _, h => by
    obtain ⟨rfl, rfl, rfl⟩ := trodAll_nil h
    exact trodAll_mk0
  | t :: ts, _, _, _, ht, h => by
    have hlt := DataW.TrodAll.lt h
    obtain ⟨v, vs, d, ds, p, q, rfl, rfl, rfl, h0, h1⟩ := trodAll_cons h
    exact trodAll_cons_mk (Below.trod Tryz.laidOut (ht t (by simp)).1 (ht t (by simp)).2 h0 hb (fun x hx => hlt x (by simp [hx])))
      (args_below hb (fun u hu => ht u (by simp [hu])) h1)

/-- A law's row, behind the call. -/
theorem law_post {H : Type} {enc : TypeId × Value → H} {f : Func} {s : ChangeSpec} {W W' : World} {args : Array Value} {ds gs : List (DataW H)} {before : List MemPlace} {t : TypeId}
    (hW : DataW.Whole enc Tryz.prog f.params.toList s.vars false W args.toList ds gs before) (hv : s.vars = [])
    (hfn : (s.fn H (ds ++ gs)).results = [.lit (.bool true)] ∧ (s.fn H (ds ++ gs)).args = ds ∧ (s.fn H (ds ++ gs)).vars = []) (hres : f.resultTypes = #[t]) (ht : Tryz.prog.underlying t = some .bool)
    (hr : ∀ t ∈ f.params.toList, Tryz.prog.readableRec t = true ∧ t < Tryz.prog.types.size) (hb : Below W.heap.size W W') :
    s.post enc Tryz.prog f false true false false W args (.bool true) W' := by
  have hW' := hW
  obtain ⟨p, q, hA, hV, rfl, _, _⟩ := hW
  rw [hv] at hV
  obtain ⟨_, rfl⟩ := trodVars_none hV
  refine ⟨ds, gs, _, [], p, [], hW', ?_, ?_, ?_, hb.frame _, fun h => by cases h⟩
  · rw [hfn.1, hres]
    exact trodAll_mk1 (shut_bool ht _)
  · rw [hfn.2.1]
    exact args_below hb hr hA
  · rw [hfn.2.2, hv]
    rfl
end Go.Proofs.YtgjkjkeeblbjlaaGreatDoor

namespace Go.Proofs.YtgjkjkeeblbjlaaGreatDoor
open Go.ChangeShapes Go.WideShapes Go.ChangeAt Go.RowKit Go.Joins Go.Deep

section
variable {H : Type} {enc : TypeId × Value → H} {P : Program} {w : World} {base : Nat} {spare : Nat → Bool} {held : Bool}
theorem open_slice_fields {t e : TypeId} {fs : Array Field} {fuel : Nat} {cs : List Value} {x : DataW H × List MemPlace} (ht : P.underlying t = some (.slice e)) (he : P.underlying e = some (.struct fs))
    (hone : oneCellFields P fs = true) (hC : P.cellsOf e = fs.size) (h : DataW.trod enc P w base spare held fuel t cs = some x) :
    (cs = [.slice none 0 0] ∧ x = (.nil, [])) ∨
    ∃ (a : Addr) (len cap m : Nat), cs = [.slice (some a) len cap] ∧ len ≤ cap ∧ cap ≤ maxLen ∧ len ≤ m ∧
      ∀ i, i < m → ∃ (ys : List (DataW H × List MemPlace)) (n : Nat),
        ∀ (j : Nat) (f : Field), fs[j]? = some f → ∃ (v : Value) (y : DataW H × List MemPlace), w.cell? (a.add (i * fs.size + j)) = some v ∧ ys[j]? = some y ∧ DataW.trod enc P w base spare held n f.type [v] = some y := by
  rcases open_slice ht h with h0 | ⟨a, len, cap, m, n, D, Pl, hcs, hb, hl, hm, hmm, hx, hi⟩
  · exact .inl h0
  · refine .inr ⟨a, len, cap, m, hcs, hl, hm, by rw [hmm]; split <;> omega, fun i him => ?_⟩
    obtain ⟨cs', hc, ht'⟩ := hi i him
    rw [hC] at hc
    obtain ⟨ys, n', hn', hy, hlen, hyl, hf⟩ := DataW.trod_struct he ht'
    obtain ⟨_, hcl, hat⟩ := World.cells?_some hc
    simp only [Prod.mk.injEq] at hy
    refine ⟨ys, n', fun j f hj => ?_⟩
    obtain ⟨ho, hk⟩ := hone_of hone j f hj
    have hjl : j < fs.size := (Array.getElem?_eq_some_iff.1 hj).1
    have hcell := hat j hjl
    have hv : cs'[j]? = some (cs'[j]'(by omega)) := List.getElem?_eq_getElem (by omega)
    have h1 := hf j f hj
    rw [ho, hk] at h1
    have hone' : (cs'.drop j).take 1 = [cs'[j]'(by omega)] := by
      rw [List.drop_eq_getElem_cons (by omega)]
      rfl
    rw [hone'] at h1
    have hys : ys[j]? = some (ys[j]'(by omega)) := List.getElem?_eq_getElem (by omega)
    refine ⟨_, _, ?_, hys, h1.trans hys⟩
    rw [← Go.Deep.add_add, hcell, hv]
end

theorem list_of {α : Type} {p : Nat → α → Prop} : ∀ (n : Nat), (∀ i, i < n → ∃ y, p i y) → ∃ l : List α, l.length = n ∧ ∀ i y, l[i]? = some y → p i y
  | 0, _ => ⟨[], rfl, fun i y h => by simp at h⟩
  | n + 1, h => by
    obtain ⟨l, h1, h2⟩ := list_of n (fun i hi => h i (by omega))
    obtain ⟨y, hy⟩ := h n (by omega)
    refine ⟨l ++ [y], by simp [h1], fun i z hz => ?_⟩
    by_cases hi : i < l.length
    · rw [List.getElem?_append_left hi] at hz; exact h2 i z hz
    · rw [List.getElem?_append_right (by omega)] at hz
      have h3 := (List.getElem?_eq_some_iff.1 hz).1
      simp only [List.length_singleton] at h3
      have h4 : i - l.length = 0 := by omega
      rw [h4] at hz
      simp only [List.getElem?_cons_zero, Option.some.injEq] at hz
      subst hz
      obtain rfl : i = n := by omega
      exact hy

theorem flat_at {α : Type} {f : α → List Value} {c : Nat} (hf : ∀ x, (f x).length = c) : ∀ (l : List α) (j : Nat) (u : Value), (l.flatMap f)[j]? = some u → ∃ i r x, l[i]? = some x ∧ j = i * c + r ∧ r < c ∧ (f x)[r]? = some u
  | [], j, u, h => by simp at h
  | x :: l, j, u, h => by
    rw [List.flatMap_cons] at h
    by_cases hj : j < (f x).length
    · rw [List.getElem?_append_left hj] at h
      exact ⟨0, j, x, rfl, by omega, by rw [← hf x]; exact hj, h⟩
    · rw [List.getElem?_append_right (by omega)] at h
      obtain ⟨i, r, y, h1, h2, h3, h4⟩ := flat_at hf l _ u h
      have := hf x
      refine ⟨i + 1, r, y, by simpa using h1, ?_, h3, h4⟩
      rw [Nat.succ_mul]; omega

theorem flat_len' {α : Type} {f : α → List Value} {c : Nat} (hf : ∀ x, (f x).length = c) (l : List α) : (l.flatMap f).length = l.length * c := by
  induction l with
  | nil => simp
  | cons x l ih => rw [List.flatMap_cons, List.length_append, hf, ih, List.length_cons, Nat.succ_mul]; omega

section
variable {H : Type} {enc : TypeId × Value → H} {w : World} {spare : Nat → Bool} {held : Bool}

theorem in_items {fuel : Nat} {v : Value} {x : DataW H × List MemPlace} (h : DataW.trod enc Tryz.prog w 0 spare held fuel 174 [v] = some x) : ∃ its : List PItem, InRow w v its.length 2 (itemCells its) ∧ ∀ y ∈ its, y.text.length ≤ maxLen := by
  rcases open_slice_fields Tryz.underlying174 Tryz.underlying129 (by kernel_rfl) (by kernel_rfl) h with ⟨hv, _⟩ | ⟨a, len, cap, m, hv, hl, hc, hm, hi⟩
  · injection hv with hv
    exact ⟨[], ⟨rfl, none, 0, hv, by simp, by unfold maxLen; omega, fun j u hj => by simp [itemCells] at hj⟩, fun y hy => by cases hy⟩
  · injection hv with hv
    obtain ⟨its, h1, h2⟩ := list_of (p := fun i (y : PItem) => w.cell? (a.add (i * 2)) = some (.int .i64 y.n) ∧ w.cell? (a.add (i * 2 + 1)) = some (.string (bs y.text)) ∧ y.text.length ≤ maxLen) len (fun i hi' => by
      obtain ⟨ys, n, hf⟩ := hi i (by omega)
      obtain ⟨v0, y0, c0, _, t0⟩ := hf 0 _ rfl
      obtain ⟨v1, y1, c1, _, t1⟩ := hf 1 _ rfl
      obtain ⟨z, e0, _, _⟩ := DataW.trod_int Tryz.underlying3 t0
      obtain ⟨s, e1, _, hs⟩ := DataW.trod_string Tryz.underlying9 t1
      injection e0 with e0
      injection e1 with e1
      subst e0 e1
      refine ⟨⟨z, tl s⟩, c0, ?_, ?_⟩
      · rw [bs_tl]; exact c1
      · show s.data.toList.length ≤ maxLen
        simpa using hs)
    subst h1
    refine ⟨its, ⟨flat_len' (f := fun (x : PItem) => [.int .i64 x.n, .string (bs x.text)]) (c := 2) (fun _ => rfl) its, some a, cap, hv, hl, hc, fun j u hj => ⟨a, rfl, ?_⟩⟩, fun y hy => ?_⟩
    · obtain ⟨i, r, y, g1, g2, g3, g4⟩ := flat_at (c := 2) (fun _ => rfl) its j u hj
      obtain ⟨g5, g6, _⟩ := h2 i y g1
      subst g2
      match r, g3 with
      | 0, _ => simp at g4; subst g4; exact g5
      | 1, _ => simp at g4; subst g4; exact g6
    · obtain ⟨i, hi'⟩ := List.getElem?_of_mem hy
      exact (h2 i y hi').2.2

theorem in_ints {fuel : Nat} {v : Value} {x : DataW H × List MemPlace} (h : DataW.trod enc Tryz.prog w 0 spare held fuel 47 [v] = some x) : ∃ l : List Int, InRow w v l.length 1 (keepCells l) := by
  rcases open_ints Tryz.underlying47 Tryz.underlying3 (by kernel_rfl) h with ⟨hv, _⟩ | ⟨a, len, cap, zs, hv, hb, hl, hc, hz, _, hat, _⟩
  · injection hv with hv
    exact ⟨[], rfl, none, 0, hv, by simp, by unfold maxLen; omega, fun j u hj => by simp [keepCells] at hj⟩
  · injection hv with hv
    have hle : len ≤ zs.length := by rw [hz]; split <;> omega
    refine ⟨zs.take len, by simp [keepCells], some a, cap, by rw [hv, List.length_take, Nat.min_eq_left hle], by rw [List.length_take]; omega, hc, fun j u hj => ⟨a, rfl, ?_⟩⟩
    unfold keepCells at hj
    rw [List.getElem?_map] at hj
    cases hq : (zs.take len)[j]? with
    | none => rw [hq] at hj; cases hj
    | some q =>
      rw [hq] at hj
      simp only [Option.map_some, Option.some.injEq] at hj
      subst hj
      rw [List.getElem?_take] at hq
      split at hq
      · have h3 := (List.getElem?_eq_some_iff.1 hq).1
        rw [hat j h3, List.getD_eq_getElem?_getD, hq]; rfl
      · cases hq

theorem one_slice {base' : Nat} {r : Reach} {t e : TypeId} {v : Value} {d : DataW H} {p : List MemPlace} (ht : Tryz.prog.underlying t = some (.slice e)) (hv : Value.okWide Tryz.prog w r base' t v) (h : DataW.Trod enc Tryz.prog w 0 spare held t v d p) :
    ∃ fuel x, DataW.trod enc Tryz.prog w 0 spare held fuel t [v] = some x := by
  obtain ⟨a, len, cap, rfl⟩ := okWide_slice ht hv
  obtain ⟨fuel, hf⟩ := h
  exact ⟨fuel, _, hf⟩
end
end Go.Proofs.YtgjkjkeeblbjlaaGreatDoor

namespace Go.Proofs.YtgjkjkeeblbjlaaGreatDoor
open Go.ChangeShapes Go.WideShapes Go.ChangeAt Go.RowKit

def u8s (l : List Nat) : Array Value := (l.map fun (x : Nat) => Value.int .u8 x).toArray
def putCells (c : Array Value) : Obj → Obj
  | .cells _ t fz => .cells c t fz
  | o => o
noncomputable def laidWorld (os : Os) : World :=
  { World.holding Tryz.prog os ⟨#[], #[], []⟩ with
    heap := ((World.holding Tryz.prog os ⟨#[], #[], []⟩).heap.modify 1 (putCells (u8s Go.Pinned.utf8FirstZ))).modify 2 (putCells (u8s [128, 191, 160, 191, 128, 159, 144, 191, 128, 143, 0, 0, 0, 0, 0, 0, 0, 0, 0, 0, 0, 0, 0, 0, 0, 0, 0, 0, 0, 0, 0, 0])) }
end Go.Proofs.YtgjkjkeeblbjlaaGreatDoor
