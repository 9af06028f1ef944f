/-
  What producers sent, plain: rows, and what a batch makes of them. No conditions.
  Producers' rows in memory: their cells. No conditions.
  slices.Clone at transactions' rows: the walk. Conditions: lengths that fit.
  slices.Insert of one row at transactions' rows: the walk. Conditions: a row of the call's own.
  slices.Insert of one row ahead of others: the walks. Conditions: a row of the call's own.
  slices.Insert of one row ahead of others, with no room: the walk; all ways together. Conditions: a row of the call's own.
  slices.IndexFunc at producers' rows: the walk. Conditions: rows that read.
  dedup: find: the walk; where a row stands, plain. Conditions: rows that read.
  dedup: Look: the walk. Conditions: rows and records that read.
-/
import Derived.Test.YtgjkjkeeblbjlaaGreatDoorJAM
import Derived.Test.YtgjkjkeeblbjlaaGreatDoorGAM
import Derived.Deep.LoopGhost
import Derived.Shelf.Abstract
import Derived.Lib.Walk
import Derived.Lib.SmallJoins
import Derived.Lib.SliceRun
import Derived.Test.YtgjkjkeeblbjlaaGreatDoorGPM
import Derived.Shelf.Spec.SlicesInsertGrow
import Derived.Test.YtgjkjkeeblbjlaaGreatDoorProg
set_option maxRecDepth 100000
namespace Go.Proofs.YtgjkjkeeblbjlaaGreatDoor
open Go.RowKit

/-- The last batch of a producer. -/
structure PProd where
  pid : Int
  epoch : Int
  seq : Int
  n : Int
  base : Int
deriving DecidableEq

def prodOf (l : List PProd) (pid : Int) : Option PProd := l.find? fun p => p.pid == pid
def insP : List PProd → PProd → List PProd
  | [], t => [t]
  | x :: l, t => if x.pid ≤ t.pid then x :: insP l t else t :: x :: l
def setP : List PProd → PProd → List PProd
  | [], _ => []
  | x :: l, t => if x.pid = t.pid then t :: l else x :: setP l t

/-- May a batch be put: where it stands already, whether it does, why not. -/
def lookP (l : List PProd) (b : PBat) : Int × Bool × Int :=
  if ¬ b.ok ∨ 2 < b.kind then (0, false, 1) else
  if b.pid = 0 then (0, false, 0) else
  let p0 := (prodOf l b.pid).getD ⟨b.pid, 0, 0, 0, 0⟩
  if b.epoch < p0.epoch then (0, false, 8) else
  let p := if p0.epoch < b.epoch then ⟨b.pid, b.epoch, 0, 0, 0⟩ else p0
  if 0 < p.n ∧ b.seq = p.seq ∧ (b.l.length : Int) = p.n then (p.base, true, 0) else
  if (0 < p.n ∧ b.seq - p.n = p.seq) ∨ (p.n ≤ 0 ∧ b.seq = 0) then (0, false, 0) else (0, false, 7)

/-- The row that a batch makes. -/
def PBat.prod (b : PBat) (base : Int) : PProd := if 2 < b.kind then ⟨b.pid, b.epoch, 0, 0, base⟩ else ⟨b.pid, b.epoch, b.seq, b.l.length, base⟩

/-- The rows behind a batch. -/
def noteP (l : List PProd) (b : PBat) (base : Int) : List PProd :=
  if b.pid = 0 then l else
  match prodOf l b.pid with
  | none => insP l (b.prod base)
  | some p => if 2 < b.kind ∧ b.epoch ≤ p.epoch then l else setP l (b.prod base)
end Go.Proofs.YtgjkjkeeblbjlaaGreatDoor

namespace Go.Proofs.YtgjkjkeeblbjlaaGreatDoor
open Go.RowKit

def PProd.val (t : PProd) : Value := .agg #[.int .i64 t.pid, .int .i64 t.epoch, .int .i64 t.seq, .int .i64 t.n, .int .i64 t.base]
def PProd.cells (t : PProd) : List Value := [.int .i64 t.pid, .int .i64 t.epoch, .int .i64 t.seq, .int .i64 t.n, .int .i64 t.base]
def prCells (l : List PProd) : List Value := l.flatMap PProd.cells

theorem prCells_app (a b : List PProd) : prCells (a ++ b) = prCells a ++ prCells b := by unfold prCells; rw [List.flatMap_append]
theorem prCells_len (l : List PProd) : (prCells l).length = l.length * 5 := by
  induction l with
  | nil => rfl
  | cons x l ih => unfold prCells at ih ⊢; rw [List.flatMap_cons, List.length_append, ih]; simp [PProd.cells]; omega
theorem pr_one (l : List PProd) : ∀ u ∈ prCells l, u.oneCell' = true := by
  intro u hu
  unfold prCells at hu
  obtain ⟨x, _, hx⟩ := List.mem_flatMap.1 hu
  simp only [PProd.cells, List.mem_cons, List.not_mem_nil, or_false] at hx
  rcases hx with rfl | rfl | rfl | rfl | rfl <;> rfl

theorem prCells_at : ∀ (q : List PProd) (i : Nat) (x : PProd), q[i]? = some x → (prCells q)[i * 5]? = some (.int .i64 x.pid) ∧ (prCells q)[i * 5 + 1]? = some (.int .i64 x.epoch) ∧ (prCells q)[i * 5 + 2]? = some (.int .i64 x.seq) ∧ (prCells q)[i * 5 + 3]? = some (.int .i64 x.n) ∧ (prCells q)[i * 5 + 4]? = some (.int .i64 x.base)
  | [], _, _, h => by simp at h
  | y :: q, 0, x, h => by
    simp only [List.getElem?_cons_zero, Option.some.injEq] at h
    subst h
    exact ⟨rfl, rfl, rfl, rfl, rfl⟩
  | y :: q, i + 1, x, h => by
    have := prCells_at q i x (by simpa using h)
    have e : prCells (y :: q) = y.cells ++ prCells q := rfl
    have e2 : y.cells.length = 5 := rfl
    have key : ∀ r, (prCells (y :: q))[(i + 1) * 5 + r]? = (prCells q)[i * 5 + r]? := by
      intro r
      rw [e, List.getElem?_append_right (by omega), e2, show (i + 1) * 5 + r - 5 = i * 5 + r from by omega]
    exact ⟨(key 0).trans this.1, (key 1).trans this.2.1, (key 2).trans this.2.2.1, (key 3).trans this.2.2.2.1, (key 4).trans this.2.2.2.2⟩

theorem prCells_set : ∀ (l : List PProd) (i : Nat) (x : PProd), i < l.length → prCells (l.set i x) = (((((prCells l).set (i * 5) (.int .i64 x.pid)).set (i * 5 + 1) (.int .i64 x.epoch)).set (i * 5 + 2) (.int .i64 x.seq)).set (i * 5 + 3) (.int .i64 x.n)).set (i * 5 + 4) (.int .i64 x.base)
  | [], i, x, h => by simp at h
  | y :: l, 0, x, _ => by simp [prCells, PProd.cells]
  | y :: l, i + 1, x, h => by
    have ih := prCells_set l i x (by simpa using h)
    have e : prCells (y :: l) = y.cells ++ prCells l := rfl
    have e2 : y.cells.length = 5 := rfl
    have e3 : prCells ((y :: l).set (i + 1) x) = y.cells ++ prCells (l.set i x) := rfl
    rw [e3, ih, e]
    have key : ∀ (m : List Value) (r : Nat) (v : Value), (y.cells ++ m).set ((i + 1) * 5 + r) v = y.cells ++ m.set (i * 5 + r) v := by
      intro m r v
      rw [List.set_append_right _ _ (by omega), e2, show (i + 1) * 5 + r - 5 = i * 5 + r from by omega]
    have k0 := key (prCells l) 0 (.int .i64 x.pid)
    simp only [Nat.add_zero] at k0
    rw [k0, key, key, key, key]
end Go.Proofs.YtgjkjkeeblbjlaaGreatDoor

namespace Go.Proofs.YtgjkjkeeblbjlaaGreatDoor
open Go.RowKit

theorem Tryz.infoClonePr : (Tryz.prog.info? 91).map (fun i => (i.zero, i.size, i.bytes)) = some (some (.agg #[.int .i64 0, .int .i64 0, .int .i64 0, .int .i64 0, .int .i64 0]), 5, 40) := by kernel_rfl

set_option maxHeartbeats 1000000 in
theorem clonePr_any {base n : Nat} {v : Value} {xs : List Value} {w : World} (h : w.ownsRow base 91 5 v n xs) (h1 : ∀ u ∈ xs, u.oneCell' = true) (hn : n ≤ 1000000) :
    Calls Tryz.prog 50 #[v] w fun e w' => ∃ v', e = .returned v' ∧ w'.ownsRow w.heap.size 91 5 v' n xs ∧ Below w.heap.size w w' := by
  have q22 : ∀ (w : World) (a : Option Addr) (n c n' c' : Nat), (binOp .eql 64 (.slice a n c) (.slice none n' c')).run Tryz.prog w = .ok (.bool a.isNone) w := fun w a n c n' c' => Lib.run_eql_slice_nil w _ _ a n c n' c' Tryz.underlying64
  obtain ⟨i0, hi, hz0, hz1, hz2⟩ := info_parts Tryz.infoClonePr
  rcases Joins.ownsRow_forms h with ⟨rfl, hz⟩ | ⟨g, cap, rfl⟩
  · subst hz
    have hx : xs = [] := by have := h.1; simpa using this
    subst hx
    clear h h1
    go_enter Tryz.func50, Tryz.ntmps50
    go_wp2_with fail
    go_ret
    exact ⟨_, rfl, World.ownsRow_nil _ _ _ _, Below.refl _ _⟩
  · have H := hid h
    have H1 := hid h1
    clear h h1
    go_enter Tryz.func50, Tryz.ntmps50
    go_wp2_with (at_builtin; refine wpList_append_own _ rfl _ _ 64 rfl w.heap.size 91 i0 _ 5 40 Tryz.underlying64 hi hz0 hz1 hz2 rfl (by omega) _ _ _ rfl (World.ownsRow_made w #[] 0 (Nat.le_refl _) (Nat.zero_le _) (by simp)) ⟨g, 0, none⟩ n cap xs rfl ?qc1 ?qc2 ?qc3 ?qc4 ?qc5 ?qc6 ?_)
    case qc1 => exact H.out.1
    case qc2 =>
      intro j u hj
      have hlt := (List.getElem?_eq_some_iff.1 hj).1
      rw [Addr.add_lit, Nat.zero_add]
      refine Lib.cell?_alloc_some _ ?_
      rw [H.out.cellAt j (by rw [← H.out.1]; exact hlt)]; exact hj
    case qc3 => exact H1.out
    case qc4 => unfold maxLen; omega
    case qc5 => omega
    case qc6 => simp
    intro v' w1 hown hgrow hnil
    have HO := hid hown
    have HG := hid hgrow
    clear hown hgrow hnil
    go_wp2_with fail
    go_ret
    refine ⟨v', rfl, HO.out, ?_⟩
    exact ((Below.refl _ w).alloc (Nat.le_refl _) _).grown HG.out (by simp) (by intro k hk; simp [Value.ownBlock] at hk; omega)
end Go.Proofs.YtgjkjkeeblbjlaaGreatDoor

namespace Go.Proofs.YtgjkjkeeblbjlaaGreatDoor
open Go.RowKit

/-- Cells set one behind the other. -/
def setLP : List Value → Nat → List Value → List Value
  | ys, _, [] => ys
  | ys, o, v :: vs => setLP (ys.set o v) (o + 1) vs

theorem setL_eqP : ∀ (vs ys : List Value) (o : Nat), o + vs.length ≤ ys.length → setLP ys o vs = ys.take o ++ vs ++ ys.drop (o + vs.length)
  | [], ys, o, _ => by simp [setLP]
  | v :: vs, ys, o, h => by
    rw [List.length_cons] at h
    have ho : o < ys.length := by omega
    rw [setLP, setL_eqP vs (ys.set o v) (o + 1) (by rw [List.length_set]; omega)]
    have e1 : (ys.set o v).take (o + 1) = ys.take o ++ [v] := by
      rw [List.take_add_one, List.getElem?_set_self ho, List.take_set_of_le (by omega)]; rfl
    have e2 : (ys.set o v).drop (o + 1 + vs.length) = ys.drop (o + (v :: vs).length) := by
      rw [List.drop_set_of_lt (by omega), List.length_cons]; congr 1; omega
    rw [e1, e2]
    simp

section
variable {w : World} {base g m cap : Nat} {e : TypeId} {size n : Nat} {xs : List Value}

theorem own_setLP : ∀ (vs : List Value) {w : World} {o : Nat} {xs : List Value}, w.ownsRow base e size (.slice (some ⟨g, 0, none⟩) m cap) n xs → (w.setCells g o vs).ownsRow base e size (.slice (some ⟨g, 0, none⟩) m cap) n (setLP xs o vs)
  | [], _, _, _, h => h
  | v :: vs, _, o, _, h => own_setLP vs (own_set h o v)

theorem own_moreP (h : w.ownsRow base e size (.slice (some ⟨g, 0, none⟩) n cap) n xs) (hr : n + 1 ≤ cap) :
    ∃ ys, w.ownsRow base e size (.slice (some ⟨g, 0, none⟩) (n + 1) cap) (n + 1) ys ∧ ys.take (n * size) = xs ∧ ys.length = (n + 1) * size := by
  obtain ⟨h1, h2⟩ := h
  rcases h2 with ⟨h2, _⟩ | ⟨g2, c2, cur, h2, h3, h4, h5, h6, h7, h8⟩
  · cases h2
  · simp only [Value.slice.injEq, Option.some.injEq, Addr.mk.injEq, and_true, true_and] at h2
    obtain ⟨rfl, rfl⟩ := h2
    have hm := Nat.mul_le_mul_right size hr
    have hl : (cur.toList.take ((n + 1) * size)).length = (n + 1) * size := by
      rw [List.length_take, Array.length_toList, h7]; omega
    refine ⟨cur.toList.take ((n + 1) * size), ⟨hl, .inr ⟨g, cap, cur, rfl, h3, h4, hr, h6, h7, rfl⟩⟩, ?_, hl⟩
    rw [List.take_take, Nat.min_eq_left (Nat.mul_le_mul_right size (by omega)), h8]

/-- A place is made in a row. -/
theorem own_insP {ts : List Value} {i : Nat} (h : w.ownsRow base e size (.slice (some ⟨g, 0, none⟩) n cap) n xs) (hr : n + 1 ≤ cap) (hi : i ≤ n) (ht : ts.length = size) :
    ((w.setCells g ((i + 1) * size) (xs.drop (i * size))).setCells g (i * size) ts).ownsRow base e size (.slice (some ⟨g, 0, none⟩) (n + 1) cap) (n + 1) (xs.take (i * size) ++ ts ++ xs.drop (i * size)) := by
  obtain ⟨ys, hy, hyx, hyl⟩ := own_moreP h hr
  have hxl := h.1
  have hm := Nat.mul_le_mul_right size hi
  have e1 : (i + 1) * size = i * size + size := by rw [Nat.succ_mul]
  have e2 : (n + 1) * size = n * size + size := by rw [Nat.succ_mul]
  have hdl : (xs.drop (i * size)).length = n * size - i * size := by rw [List.length_drop, hxl]
  have h9 := own_setLP ts (o := i * size) (own_setLP (xs.drop (i * size)) (o := (i + 1) * size) hy)
  rw [setL_eqP (xs.drop (i * size)) ys ((i + 1) * size) (by rw [hdl]; omega)] at h9
  rw [setL_eqP ts _ _ (by simp only [List.length_append, List.length_take, List.length_drop]; omega)] at h9
  have e3 : (ys.take ((i + 1) * size) ++ xs.drop (i * size) ++ ys.drop ((i + 1) * size + (xs.drop (i * size)).length)).take (i * size) = xs.take (i * size) := by
    rw [List.append_assoc, List.take_append_of_le_length (by rw [List.length_take]; omega), List.take_take, Nat.min_eq_left (by omega), ← hyx, List.take_take, Nat.min_eq_left hm]
  have e4 : (ys.take ((i + 1) * size) ++ xs.drop (i * size) ++ ys.drop ((i + 1) * size + (xs.drop (i * size)).length)).drop (i * size + ts.length) = xs.drop (i * size) := by
    have e5 : ys.drop ((i + 1) * size + (xs.drop (i * size)).length) = [] := List.drop_eq_nil_of_le (by rw [hdl]; omega)
    rw [e5, List.append_nil, ht, ← e1, List.drop_append_of_le_length (by rw [List.length_take]; omega), List.drop_eq_nil_of_le (by rw [List.length_take]; omega)]
    rfl
  rw [e3, e4] at h9
  exact h9
end

theorem own_cap8P {w : World} {base : Nat} {e : TypeId} {size : Nat} {ad : Option Addr} {n m cap : Nat} {xs : List Value} (h : w.ownsRow base e size (.slice ad m cap) n xs) : n ≤ cap ∧ m = n ∧ cap ≤ maxLen := by
  rcases h.2 with ⟨e1, hz⟩ | ⟨g, c, cur, e1, _, _, h3, h4, _⟩
  · injection e1 with _ e2 e3
    subst e2 e3
    exact ⟨by omega, by omega, by unfold maxLen; omega⟩
  · injection e1 with _ e2 e3
    subst e2 e3
    exact ⟨h3, rfl, h4⟩

theorem run_copy_rowsP {P : Program} (w : World) (dT sT ty elem : TypeId) (size : Nat) (b o dLen dCap : Nat) (a : Addr) (sLen sCap n : Nat) (cs : List Value)
    (hu : P.underlying dT = some (.slice elem)) (hs : (P.info? elem).map (·.size) = some size) (hn : n = Nat.min sLen dLen) (hl0 : cs.length = n * size)
    (hsrc : ∀ j v, cs[j]? = some v → w.cell? (a.add j) = some v) (hc : ∀ j, j < cs.length → (w.cell? ⟨b, o + j, none⟩).isSome = true) (hf : ∀ j, j < cs.length → w.frozen? ⟨b, o + j, none⟩ = false) (h1 : ∀ v ∈ cs, v.oneCell' = true) :
    (Builtin.copy_ #[dT, sT] ty #[.slice (some ⟨b, o, none⟩) dLen dCap, .slice (some a) sLen sCap]).run P w = .ok (goInt n) (w.setCells b o cs) := by
  have hl := run_loadCells_list (P := P) w a cs hsrc
  have hst := run_storeCells_cells (P := P) b o cs 0 w (by simpa using hc) (by simpa using hf) h1
  rw [hl0] at hl
  cases hq : P.info? elem with
  | none => simp [hq] at hs
  | some i =>
    have hi : i.size = size := by simpa [hq] using hs
    simp [Builtin.copy_, run_underlying hu, Builtin.lenOf, Builtin.firstCells, sizeOf, typeInfo, hq, hi, ← hn, hl, hst]

def InsPost8 (w : World) (base : Nat) (l : List PProd) (i : Nat) (t : PProd) (e : Ending) (w' : World) : Prop :=
  ∃ v', e = .returned v' ∧ w'.ownsRow base 91 5 v' (l.length + 1) (prCells (l.take i ++ t :: l.drop i)) ∧ Below base w w'

theorem ins_cells8 (l : List PProd) (i : Nat) (t : PProd) : prCells (l.take i ++ t :: l.drop i) = (prCells l).take (i * 5) ++ t.cells ++ (prCells l).drop (i * 5) := by
  have hs : prCells l = prCells (l.take i) ++ prCells (l.drop i) := by rw [← prCells_app, List.take_append_drop]
  have e1 : prCells (l.take i ++ t :: l.drop i) = prCells (l.take i) ++ t.cells ++ prCells (l.drop i) := by
    rw [prCells_app]
    show prCells (l.take i) ++ (t.cells ++ prCells (l.drop i)) = _
    rw [List.append_assoc]
  by_cases hi : i ≤ l.length
  · have hlen : (prCells (l.take i)).length = i * 5 := by rw [prCells_len, List.length_take, Nat.min_eq_left hi]
    rw [e1, hs, ← hlen, List.take_left, List.drop_left]
  · have h1 : l.take i = l := List.take_of_length_le (by omega)
    have h2 : l.drop i = [] := List.drop_eq_nil_of_le (by omega)
    rw [e1, h1, h2, List.take_of_length_le (by rw [prCells_len]; omega), List.drop_eq_nil_of_le (by rw [prCells_len]; omega)]
    rfl

theorem pr_end (l : List PProd) (t : PProd) : prCells (l.take l.length ++ t :: l.drop l.length) = prCells l ++ t.cells := by
  rw [ins_cells8, List.take_of_length_le (by rw [prCells_len]; omega), List.drop_eq_nil_of_le (by rw [prCells_len]; omega), List.append_nil]

set_option maxHeartbeats 2000000 in
theorem prInsert_end {w : World} {base vb : Nat} {v : Value} {l : List PProd} {t : PProd} (h : w.ownsRow base 91 5 v l.length (prCells l)) (hb : base ≤ w.heap.size) (hl : l.length ≤ 8)
    (ht : Blk w vb #[.int .i64 t.pid, .int .i64 t.epoch, .int .i64 t.seq, .int .i64 t.n, .int .i64 t.base] 91) :
    Calls Tryz.prog 108 #[v, .int .i64 l.length, .slice (some ⟨vb, 0, none⟩) 1 1] w (InsPost8 w base l l.length t) := by
  obtain ⟨i0, hi, hz0, hz1, hz2⟩ := info_parts Tryz.infoClonePr
  have HH := hid h
  have HT := hid ht
  have HB := hid hb
  have hsrc : ∀ j u, t.cells[j]? = some u → w.cell? ((⟨vb, 0, none⟩ : Addr).add j) = some u := by
    intro j u hj
    rw [Addr.add_lit, Nat.zero_add]
    exact ht.cell (by simpa [PProd.cells] using hj)
  have HS := hid hsrc
  have hone : ∀ u ∈ t.cells, u.oneCell' = true := by
    intro u hu
    simp only [PProd.cells, List.mem_cons, List.not_mem_nil, or_false] at hu
    rcases hu with rfl | rfl | rfl | rfl | rfl <;> rfl
  have HO := hid hone
  clear hsrc hone hb ht
  rcases Joins.ownsRow_forms h with ⟨rfl, hz⟩ | ⟨g, cap, rfl⟩
  · have hl0 : l = [] := List.length_eq_zero_iff.1 hz
    subst hl0
    clear h hl hz
    go_enter Tryz.func108, Tryz.ntmps108
    go_wp2_with (at_builtin; refine wpList_append_own _ rfl _ _ 64 rfl base 91 i0 _ 5 40 Tryz.underlying64 hi hz0 hz1 hz2 rfl (by omega) _ _ _ rfl HH.out ⟨vb, 0, none⟩ 1 1 t.cells rfl rfl HS.out HO.out ?c3 ?c4 ?c5 ?_)
    case c3 => unfold maxLen; simp
    case c4 => simp
    case c5 => exact HB.out
    intro v' w1 hown hgrow hnil
    have HG := hid (bel_append (Below.refl base w) HH.out HB.out hgrow)
    have HW := hid hown
    clear hown hgrow hnil
    go_wp2_with fail
    go_ret
    exact ⟨v', rfl, by have h9 := HW.out; rwa [← pr_end [] t] at h9, HG.out⟩
  · have hcap := (own_cap8P h).1
    have hn0 : (0 : Int) ≤ (l.length : Int) := by omega
    clear h
    by_cases hc : cap = l.length
    · subst hc
      go_enter Tryz.func108, Tryz.ntmps108
      go_wp2_with (at_builtin; refine wpList_append_own _ rfl _ _ 64 rfl base 91 i0 _ 5 40 Tryz.underlying64 hi hz0 hz1 hz2 rfl (by omega) _ _ _ rfl HH.out ⟨vb, 0, none⟩ 1 1 t.cells rfl rfl HS.out HO.out ?c3 ?c4 ?c5 ?_)
      case c3 => unfold maxLen; omega
      case c4 => omega
      case c5 => exact HB.out
      intro v' w1 hown hgrow hnil
      have HG := hid (bel_append (Below.refl base w) HH.out HB.out hgrow)
      have HW := hid hown
      clear hown hgrow hnil
      go_wp2_with fail
      go_ret
      exact ⟨v', rfl, by rw [pr_end]; exact HW.out, HG.out⟩
    · go_enter Tryz.func108, Tryz.ntmps108
      go_wp2_with (at_builtin; refine wpList_append_own _ rfl _ _ 64 rfl base 91 i0 _ 5 40 Tryz.underlying64 hi hz0 hz1 hz2 rfl (by omega) _ _ _ rfl HH.out ⟨vb, 0, none⟩ 1 1 t.cells rfl rfl HS.out HO.out ?d3 ?d4 ?d5 ?_)
      case d3 => unfold maxLen; omega
      case d4 => omega
      case d5 => exact HB.out
      intro v' w1 hown hgrow hnil
      have HG := hid (bel_append (Below.refl base w) HH.out HB.out hgrow)
      have HW := hid hown
      clear hown hgrow hnil
      go_wp2_with fail
      go_ret
      exact ⟨v', rfl, by rw [pr_end]; exact HW.out, HG.out⟩
end Go.Proofs.YtgjkjkeeblbjlaaGreatDoor

namespace Go.Proofs.YtgjkjkeeblbjlaaGreatDoor
open Go.RowKit

theorem own_shapeP {w : World} {base g m cap : Nat} {e : TypeId} {size n : Nat} {xs : List Value} (h : w.ownsRow base e size (.slice (some ⟨g, 0, none⟩) m cap) n xs) : w.shape? g = some (e, cap * size) := by
  rcases h.2 with ⟨h2, _⟩ | ⟨g2, c2, cur, h2, h3, h4, h5, h6, h7, _⟩
  · cases h2
  · simp only [Value.slice.injEq, Option.some.injEq, Addr.mk.injEq, and_true] at h2
    obtain ⟨rfl, rfl, rfl⟩ := h2
    simp [World.shape?, h4, h7]

theorem own_someP {w : World} {base g m cap : Nat} {e : TypeId} {size n : Nat} {xs : List Value} (h : w.ownsRow base e size (.slice (some ⟨g, 0, none⟩) m cap) n xs) {k : Nat} (hk : k < cap * size) : (w.cell? ⟨g, k, none⟩).isSome = true := by
  rcases h.2 with ⟨h2, _⟩ | ⟨g2, c2, cur, h2, h3, h4, h5, h6, h7, _⟩
  · cases h2
  · simp only [Value.slice.injEq, Option.some.injEq, Addr.mk.injEq, and_true] at h2
    obtain ⟨rfl, rfl, rfl⟩ := h2
    simp [World.cell?, h4, h7, hk]

theorem Tryz.prSize : (Tryz.prog.info? 91).map (·.size) = some 5 := by kernel_rfl

set_option maxHeartbeats 4000000 in
/-- There is room: in place. -/
theorem prInsert_room {w : World} {base vb g cap i : Nat} {l : List PProd} {t : PProd} (h : w.ownsRow base 91 5 (.slice (some ⟨g, 0, none⟩) l.length cap) l.length (prCells l)) (hb : base ≤ w.heap.size) (hi : i < l.length) (hr : l.length + 1 ≤ cap)
    (ht : Blk w vb #[.int .i64 t.pid, .int .i64 t.epoch, .int .i64 t.seq, .int .i64 t.n, .int .i64 t.base] 91) (hne : vb ≠ g) :
    Calls Tryz.prog 108 #[.slice (some ⟨g, 0, none⟩) l.length cap, .int .i64 i, .slice (some ⟨vb, 0, none⟩) 1 1] w (InsPost8 w base l i t) := by
  have hmax := (own_cap8P h).2.2
  unfold maxLen at hmax
  have hgb := (h.lt g rfl).1
  have hshape := own_shapeP h
  have hsome := fun k hk => own_someP h (k := k) hk
  have hfree := fun k => row_free h k
  have hcell : ∀ j u, (prCells l)[j]? = some u → w.cell? ⟨g, j, none⟩ = some u := fun j u hj => by
    have hlt := (List.getElem?_eq_some_iff.1 hj).1
    rw [prCells_len] at hlt
    rw [h.cellAt j hlt]; exact hj
  have hfin := own_insP (w := w.drew) (ts := t.cells) (i := i) (size := 5) (h : w.drew.ownsRow base 91 5 (.slice (some ⟨g, 0, none⟩) l.length cap) l.length (prCells l)) hr (by omega) rfl
  rw [← ins_cells8] at hfin
  have HFIN := hid hfin
  have hsrc : ∀ j u, t.cells[j]? = some u → w.cell? ⟨vb, j, none⟩ = some u := by
    intro j u hj
    exact ht.cell (by simpa [PProd.cells] using hj)
  have hone : ∀ u ∈ t.cells, u.oneCell' = true := by
    intro u hu
    simp only [PProd.cells, List.mem_cons, List.not_mem_nil, or_false] at hu
    rcases hu with rfl | rfl | rfl | rfl | rfl <;> rfl
  have hdl : ((prCells l).drop (i * 5)).length = (l.length - i) * 5 := by rw [List.length_drop, prCells_len, Nat.sub_mul]
  have hin : i ≤ l.length := by omega
  have hw1 : IntKind.i64.wrap ((i : Int) + 1) = (i : Int) + 1 := by rw [IntKind.wrap_i64]; omega
  have hb1 : (0 : Int) ≤ (i : Int) + 1 := by omega
  have htn : ((i : Int) + 1).toNat = i + 1 := by omega
  have hb2 : ¬ (cap = i + 1) := by omega
  have hb3 : (i : Int) ≤ (l.length : Int) + 1 := by omega
  have hb4 : ¬ (cap = i) := by omega
  have hz2 : ¬ ((i : Int) = (l.length : Int)) := by omega
  have hov : ∀ lb cb, (callFunc 131 #[.slice (some ⟨vb, 0, none⟩) 1 1, .slice (some ⟨g, (i + 1) * 5, none⟩) lb cb]).run Tryz.prog w = .ok (.value (.bool false)) w := fun lb cb => by
    rw [run_callFunc_extern Tryz.func131 (by kernel_rfl) (by kernel_rfl) (by kernel_rfl) (e := Extern.SlicesOverlaps.overlaps #[64, 64] #[4]) (by kernel_rfl),
      Lib.run_overlaps_apart w 64 4 91 Tryz.underlying64 5 (fun _ => by kernel_rfl) ⟨vb, 0, none⟩ ⟨g, (i + 1) * 5, none⟩ 1 1 lb cb hne 91 91 5 (cap * 5) (by simp [World.shape?, (show w.heap[vb]? = some _ from ht)]) hshape (by omega) (ht.free 0) (ht.free 5)]
    rfl
  have hcp1 : ∀ ty dc sc, (Builtin.copy_ #[64, 64] ty #[.slice (some ⟨g, (i + 1) * 5, none⟩) (l.length - i) dc, .slice (some ⟨g, i * 5, none⟩) (l.length + 1 - i) sc]).run Tryz.prog w.drew = .ok (goInt ((l.length - i : Nat) : Int)) (w.drew.setCells g ((i + 1) * 5) ((prCells l).drop (i * 5))) := fun ty dc sc =>
    run_copy_rowsP w.drew _ _ ty 91 5 g ((i + 1) * 5) (l.length - i) dc ⟨g, i * 5, none⟩ (l.length + 1 - i) sc (l.length - i) ((prCells l).drop (i * 5)) Tryz.underlying64 Tryz.prSize (by simp only [Nat.min_def]; split <;> omega) hdl
      (fun j v hj => by rw [Addr.add_lit]; exact hcell _ v (by rwa [List.getElem?_drop] at hj))
      (fun j hj => hsome _ (by rw [hdl] at hj; have := Nat.mul_le_mul_right 5 hr; omega)) (fun j _ => hfree _) (fun v hv => pr_one l v (List.mem_of_mem_drop hv))
  obtain ⟨W1, hW1⟩ : ∃ W1, W1 = w.drew.setCells g ((i + 1) * 5) ((prCells l).drop (i * 5)) := ⟨_, rfl⟩
  have hsp1 : ∀ k, k < cap * 5 → (W1.cell? ⟨g, k, none⟩).isSome = true := fun k hk => by
    rw [hW1]
    exact isSome_setCells g _ _ w.drew (fun j hj => hsome ((i + 1) * 5 + j) (by rw [hdl] at hj; have := Nat.mul_le_mul_right 5 hr; omega)) k (hsome k hk)
  have mixed : Tryz.prog.follows Departure.mixedOrders = true := by kernel_rfl
  have hcp2 : ∀ (W : World), (∀ x, W.cell? x = W1.cell? x) → (∀ x, W.frozen? x = W1.frozen? x) → ∀ ty dc, (Builtin.copy_ #[64, 64] ty #[.slice (some ⟨g, i * 5, none⟩) (l.length + 1 - i) dc, .slice (some ⟨vb, 0, none⟩) 1 1]).run Tryz.prog W = .ok (goInt ((1 : Nat) : Int)) (W.setCells g (i * 5) t.cells) := fun W hWc hWf ty dc =>
    run_copy_rowsP W _ _ ty 91 5 g (i * 5) (l.length + 1 - i) dc ⟨vb, 0, none⟩ 1 1 1 t.cells Tryz.underlying64 Tryz.prSize (by simp only [Nat.min_def]; split <;> omega) rfl
      (fun j v hj => by
        rw [Addr.add_lit, Nat.zero_add, hWc, hW1, World.cell?_setCells_out g _ _ _ _ (fun h _ => absurd h hne)]
        exact hsrc j v hj)
      (fun j hj => by
        have h5 : t.cells.length = 5 := rfl
        rw [h5] at hj
        rw [hWc]
        exact hsp1 (i * 5 + j) (by have := Nat.mul_le_mul_right 5 hr; omega))
      (fun j hj => by rw [hWf, hW1, World.frozen?_setCells]; exact hfree _) hone
  have HBEL : Hid (Below base w ((w.drew.setCells g ((i + 1) * 5) ((prCells l).drop (i * 5))).setCells g (i * 5) t.cells)) := hid (
    (fr_cells (S := fun k => k = g) rfl _ (fr_cells (S := fun k => k = g) rfl _ (Fr.refl _ _).drew)).to_below hb (fun k hk e => by omega))
  rw [← hW1] at hcp1
  have HW1 := hid hW1
  clear hsp1 hW1 h ht hb hfin hcell hsome hfree hsrc hone hdl hshape hgb
  go_enter Tryz.func108, Tryz.ntmps108
  go_wp2_with (simp only [hov])
  go_region_law_o (refine step_copy_runI rfl _ _ 64 64 rfl _ _ (by simp [Act.eval, Act.put]) (by simp [Act.eval, Act.put]) (hcp1 _ _ _) ?_)
  go_wp2_with fail
  clear hcp1 hcp2 hov
  rw [HW1.out]
  have HF2 := HFIN.out
  have HB2 := HBEL.out
  clear HFIN HBEL HW1
  generalize (w.drew.setCells g ((i + 1) * 5) ((prCells l).drop (i * 5))).setCells g (i * 5) t.cells = w9 at HF2 HB2 ⊢
  go_ret
  exact ⟨.slice (some ⟨g, 0, none⟩) (l.length + 1) cap, rfl, HF2, HB2⟩
end Go.Proofs.YtgjkjkeeblbjlaaGreatDoor

namespace Go.Proofs.YtgjkjkeeblbjlaaGreatDoor
open Go.RowKit

theorem own_row_newP {w : World} {base n G H : Nat} {T : TypeId} {size : Nat} {ROW : Array Value} (hb : base ≤ H) (hH : w.heap[H]? = some (.cells ROW T (0, 0))) (hn : n ≤ G) (hG : G ≤ maxLen) (hs : ROW.size = G * size) :
    w.ownsRow base T size (.slice (some ⟨H, 0, none⟩) n G) n (ROW.toList.take (n * size)) := by
  refine ⟨?_, .inr ⟨H, G, ROW, rfl, hb, hH, hn, hG, hs, rfl⟩⟩
  have := Nat.mul_le_mul_right size hn
  rw [List.length_take, Array.length_toList, hs]; omega

set_option maxHeartbeats 4000000 in
/-- There is no room: a new row. -/
theorem prInsert_grow {w : World} {base vb g cap i : Nat} {l : List PProd} {t : PProd} (h : w.ownsRow base 91 5 (.slice (some ⟨g, 0, none⟩) l.length cap) l.length (prCells l)) (hb : base ≤ w.heap.size) (hi : i < l.length) (hr : ¬ l.length + 1 ≤ cap) (hl : l.length ≤ 8)
    (ht : Blk w vb #[.int .i64 t.pid, .int .i64 t.epoch, .int .i64 t.seq, .int .i64 t.n, .int .i64 t.base] 91) :
    Calls Tryz.prog 108 #[.slice (some ⟨g, 0, none⟩) l.length cap, .int .i64 i, .slice (some ⟨vb, 0, none⟩) 1 1] w (InsPost8 w base l i t) := by
  obtain ⟨hcap, _, _⟩ := own_cap8P h
  have hce : cap = l.length := by omega
  subst hce
  have hgl := (h.lt g rfl).2
  have hvl := ht.lt
  obtain ⟨i0, hi0, hz0, hzs, hzb⟩ := info_parts Tryz.infoClonePr
  have hcell : ∀ j u, (prCells l)[j]? = some u → w.cell? ⟨g, j, none⟩ = some u := fun j u hj => by
    have hlt := (List.getElem?_eq_some_iff.1 hj).1
    rw [prCells_len] at hlt
    rw [h.cellAt j hlt]; exact hj
  have hsrc : ∀ j u, t.cells[j]? = some u → w.cell? ⟨vb, j, none⟩ = some u := by
    intro j u hj
    exact ht.cell (by simpa [PProd.cells] using hj)
  have hone : ∀ u ∈ t.cells, u.oneCell' = true := by
    intro u hu
    simp only [PProd.cells, List.mem_cons, List.not_mem_nil, or_false] at hu
    rcases hu with rfl | rfl | rfl | rfl | rfl <;> rfl
  have hdl : ((prCells l).drop (i * 5)).length = (l.length - i) * 5 := by rw [List.length_drop, prCells_len, Nat.sub_mul]
  have htl : ((prCells l).take (i * 5)).length = i * 5 := by rw [List.length_take, prCells_len]; omega
  have hold : (Builtin.firstCells i0.size i (.slice (some ⟨g, 0, none⟩) i l.length)).run Tryz.prog w.drew = .ok ((prCells l).take (i * 5)).toArray w.drew := by
    rw [hzs]
    exact run_firstCells_some w.drew 5 i ⟨g, 0, none⟩ i l.length ((prCells l).take (i * 5)) htl (fun j v hj => by
      rw [Addr.add_lit, Nat.zero_add]
      rw [List.getElem?_take] at hj
      split at hj
      · exact hcell j v hj
      · cases hj)
  have hik : i + (l.length + 1 - i) = l.length + 1 := by omega
  obtain ⟨G, hG⟩ : ∃ G, G = grownCap w (l.length + 1) l.length 91 := ⟨_, rfl⟩
  have hGn : l.length + 1 ≤ G := by rw [hG]; exact grownCap_ge w _ _ _
  have hGm : G ≤ maxLen := by rw [hG]; exact grownCap_le_maxLen w (l.length + 1) l.length 91 (by unfold maxLen; omega)
  obtain ⟨ROW, hROW⟩ : ∃ ROW : Array Value, ROW = ((prCells l).take (i * 5)).toArray ++ Builtin.zeroCells (Value.agg #[.int .i64 0, .int .i64 0, .int .i64 0, .int .i64 0, .int .i64 0]).cells (l.length + 1 - i) ++ Builtin.zeroCells (Value.agg #[.int .i64 0, .int .i64 0, .int .i64 0, .int .i64 0, .int .i64 0]).cells (G - (l.length + 1)) := ⟨_, rfl⟩
  have hrz : ∀ ty, (Builtin.append_ #[64, 3] ty #[.slice (some ⟨g, 0, none⟩) i l.length, .int .i64 ((l.length : Int) + 1 - (i : Int))]).run Tryz.prog w =
      .ok (.slice (some ⟨w.heap.size, 0, none⟩) (l.length + 1) G) (w.drew.alloc (.cells ROW 91)) := fun ty => by
    have h9 := Lib.run_append_grow_zeros (P := Tryz.prog) w 64 3 ty 91 i0 _ .i64 .i64 Tryz.underlying64 Tryz.underlying3 hi0 hz0 (some ⟨g, 0, none⟩) i l.length _ hold (l.length + 1 - i) (by omega) (by omega) (by omega) (by omega) (by rw [hzb]; omega) (by rw [hzb, hik]; exact growslice_fits (by omega) (by omega))
    rw [hik] at h9
    rw [show (l.length : Int) + 1 - (i : Int) = ((l.length + 1 - i : Nat) : Int) by omega, hG, hROW, hG]
    exact h9
  have hRs : ROW.size = G * 5 := by
    rw [hROW]
    simp only [Array.size_append, List.size_toArray, htl, Builtin.zeroCells, Array.size_map, Array.size_range]
    have hz5 : (Value.agg #[.int .i64 0, .int .i64 0, .int .i64 0, .int .i64 0, .int .i64 0]).cells.size = 5 := rfl
    rw [hz5, ← Nat.add_mul, ← Nat.add_mul]
    congr 1; omega
  -- the world with the new row
  obtain ⟨W1, hW1⟩ : ∃ W1, W1 = w.drew.alloc (.cells ROW 91) := ⟨_, rfl⟩
  have hHB : Blk W1 w.heap.size ROW 91 := by rw [hW1]; exact Blk.new w.drew ROW 91
  have hbel1 : Below w.heap.size w W1 := by rw [hW1]; exact bel_alloc (Below.refl w.heap.size w).drew _
  have hsz1 : W1.heap.size = w.heap.size + 1 := by rw [hW1]; simp
  have hN : ∀ j, j < G * 5 → (W1.cell? ⟨w.heap.size, j, none⟩).isSome = true := fun j hj => by
    rw [hHB.cell (i := j) (Array.getElem?_eq_getElem (by omega))]; rfl
  have hNf : ∀ j, W1.frozen? ⟨w.heap.size, j, none⟩ = false := fun j => hHB.free j
  have hOb : ∀ j u, (prCells l)[j]? = some u → W1.cell? ⟨g, j, none⟩ = some u := fun j u hj => (hbel1.cell (p := ⟨g, j, none⟩) hgl).trans (hcell j u hj)
  have hOv : ∀ j u, t.cells[j]? = some u → W1.cell? ⟨vb, j, none⟩ = some u := fun j u hj => (hbel1.cell (p := ⟨vb, j, none⟩) hvl).trans (hsrc j u hj)
  have h5 : t.cells.length = 5 := rfl
  have hG5 : (l.length + 1) * 5 ≤ G * 5 := Nat.mul_le_mul_right 5 hGn
  have hcpA : ∀ ty dc, (Builtin.copy_ #[64, 64] ty #[.slice (some ⟨w.heap.size, i * 5, none⟩) (l.length + 1 - i) dc, .slice (some ⟨vb, 0, none⟩) 1 1]).run Tryz.prog W1 = .ok (goInt ((1 : Nat) : Int)) (W1.setCells w.heap.size (i * 5) t.cells) := fun ty dc =>
    run_copy_rowsP W1 _ _ ty 91 5 w.heap.size (i * 5) (l.length + 1 - i) dc ⟨vb, 0, none⟩ 1 1 1 t.cells Tryz.underlying64 Tryz.prSize (by simp only [Nat.min_def]; split <;> omega) rfl
      (fun j v hj => by rw [Addr.add_lit, Nat.zero_add]; exact hOv j v hj)
      (fun j hj => hN _ (by rw [h5] at hj; omega)) (fun j _ => hNf _) hone
  obtain ⟨W2, hW2⟩ : ∃ W2, W2 = W1.setCells w.heap.size (i * 5) t.cells := ⟨_, rfl⟩
  have hgne : g ≠ w.heap.size := by omega
  have hcpB : ∀ ty dc sc, (Builtin.copy_ #[64, 64] ty #[.slice (some ⟨w.heap.size, (i + 1) * 5, none⟩) (l.length - i) dc, .slice (some ⟨g, i * 5, none⟩) (l.length - i) sc]).run Tryz.prog W2.drew = .ok (goInt ((l.length - i : Nat) : Int)) (W2.drew.setCells w.heap.size ((i + 1) * 5) ((prCells l).drop (i * 5))) := fun ty dc sc =>
    run_copy_rowsP W2.drew _ _ ty 91 5 w.heap.size ((i + 1) * 5) (l.length - i) dc ⟨g, i * 5, none⟩ (l.length - i) sc (l.length - i) ((prCells l).drop (i * 5)) Tryz.underlying64 Tryz.prSize (by simp only [Nat.min_def]; split <;> omega) hdl
      (fun j v hj => by
        rw [Addr.add_lit]
        show W2.cell? _ = _
        rw [hW2, World.cell?_setCells_out _ _ _ _ _ (fun h _ => absurd h hgne)]
        exact hOb _ v (by rwa [List.getElem?_drop] at hj))
      (fun j hj => by
        show (W2.cell? _).isSome = true
        rw [hW2]
        exact isSome_setCells w.heap.size _ _ W1 (fun j hj => hN (i * 5 + j) (by rw [h5] at hj; omega)) ((i + 1) * 5 + j) (hN _ (by rw [hdl] at hj; omega)))
      (fun j _ => by
        show W2.frozen? _ = false
        rw [hW2, World.frozen?_setCells]; exact hNf _) (fun v hv => pr_one l v (List.mem_of_mem_drop hv))
  have hfin : (W2.drew.setCells w.heap.size ((i + 1) * 5) ((prCells l).drop (i * 5))).ownsRow base 91 5 (.slice (some ⟨w.heap.size, 0, none⟩) (l.length + 1) G) (l.length + 1) (prCells (l.take i ++ t :: l.drop i)) := by
    have r1 := own_row_newP (base := base) hb hHB hGn hGm hRs
    have hrl : (ROW.toList.take ((l.length + 1) * 5)).length = (l.length + 1) * 5 := by rw [List.length_take, Array.length_toList (xs := ROW), hRs]; omega
    have hrt : (ROW.toList.take ((l.length + 1) * 5)).take (i * 5) = (prCells l).take (i * 5) := by
      rw [List.take_take, Nat.min_eq_left (by omega), hROW, Array.toList_append, Array.toList_append, List.append_assoc]
      have e9 : ((prCells l).take (i * 5)).toArray.toList = (prCells l).take (i * 5) := rfl
      rw [e9, List.take_append_of_le_length (by rw [htl]; omega), List.take_of_length_le (by rw [htl]; omega)]
    have r2 := own_setLP t.cells (o := i * 5) r1
    rw [← hW2] at r2
    have r3 := own_setLP (w := W2.drew) ((prCells l).drop (i * 5)) (o := (i + 1) * 5) r2
    rw [setL_eqP t.cells _ _ (by rw [hrl, h5]; omega)] at r3
    rw [setL_eqP ((prCells l).drop (i * 5)) _ _ (by simp only [List.length_append, List.length_take, List.length_drop, hrl, h5, hdl]; omega)] at r3
    rw [hrt] at r3
    have e1 : ((prCells l).take (i * 5) ++ t.cells ++ (ROW.toList.take ((l.length + 1) * 5)).drop (i * 5 + t.cells.length)).take ((i + 1) * 5) = (prCells l).take (i * 5) ++ t.cells := by
      rw [List.take_append_of_le_length (by rw [List.length_append, htl, h5]; omega), List.take_of_length_le (by rw [List.length_append, htl, h5]; omega)]
    have e2 : ((prCells l).take (i * 5) ++ t.cells ++ (ROW.toList.take ((l.length + 1) * 5)).drop (i * 5 + t.cells.length)).drop ((i + 1) * 5 + ((prCells l).drop (i * 5)).length) = [] := by
      refine List.drop_eq_nil_of_le ?_
      rw [List.length_append, List.length_append, htl, h5, List.length_drop, hrl, hdl]; omega
    rw [e1, e2, List.append_nil, ← ins_cells8] at r3
    exact r3
  have hbelf : Below base w (W2.drew.setCells w.heap.size ((i + 1) * 5) ((prCells l).drop (i * 5))) := by
    have f1 : Fr (fun k => k = w.heap.size) w W2 := by rw [hW2]; exact fr_cells (S := fun k => k = w.heap.size) rfl _ (Fr.of_below hbel1)
    exact (fr_cells (S := fun k => k = w.heap.size) rfl _ f1.drew).to_below hb (fun k hk e => by omega)
  rw [← hW1] at hrz
  rw [← hW2] at hcpA
  obtain ⟨W3, hW3⟩ : ∃ W3, W3 = W2.drew.setCells w.heap.size ((i + 1) * 5) ((prCells l).drop (i * 5)) := ⟨_, rfl⟩
  rw [← hW3] at hcpB hfin hbelf
  have HFIN := hid hfin
  have HBEL := hid hbelf
  have mixed : Tryz.prog.follows Departure.mixedOrders = true := by kernel_rfl
  have hz2 : ¬ ((i : Int) = (l.length : Int)) := by omega
  have hz3 : (l.length : Int) < (l.length : Int) + 1 := by omega
  have hw1 : IntKind.i64.wrap ((i : Int) + 1) = (i : Int) + 1 := by rw [IntKind.wrap_i64]; omega
  have hb1 : (0 : Int) ≤ (i : Int) + 1 := by omega
  have hin : i ≤ l.length := by omega
  have htn : ((i : Int) + 1).toNat = i + 1 := by omega
  have hGi : ¬ (G = i) := by omega
  have hGim : ¬ (G = i + 1) := by omega
  have hci : ¬ (l.length = i) := by omega
  have hb3 : (i : Int) ≤ (l.length : Int) := by omega
  clear hW3 hW2 hW1 hfin hbelf hold hROW hG hRs hHB hbel1 hsz1 hN hNf hOb hOv h5 hG5 hcell hsrc hone hdl htl h ht hb hi0 hz0 hzs hzb hik
  go_enter Tryz.func108, Tryz.ntmps108
  go_wp2_with (at_builtin; refine Lib.wpList_append_run _ rfl _ _ _ _ rfl _ _ rfl rfl _ _ (hrz _) ?_)
  go_region_law_o (refine step_copy_runI rfl _ _ 64 64 rfl _ _ (by simp [Act.eval, Act.put]) (by simp [Act.eval, Act.put]) (hcpB _ _ _) ?_)
  go_wp2_with fail
  clear hrz hcpA hcpB
  go_ret
  exact ⟨.slice (some ⟨w.heap.size, 0, none⟩) (l.length + 1) G, rfl, HFIN.out, HBEL.out⟩

/-- A row is put in its place. -/
theorem prInsert {w : World} {base vb i : Nat} {v : Value} {l : List PProd} {t : PProd} (h : w.ownsRow base 91 5 v l.length (prCells l)) (hb : base ≤ w.heap.size) (hi : i ≤ l.length) (hl : l.length ≤ 8)
    (ht : Blk w vb #[.int .i64 t.pid, .int .i64 t.epoch, .int .i64 t.seq, .int .i64 t.n, .int .i64 t.base] 91) (hne : v.ownBlock ≠ some vb) :
    Calls Tryz.prog 108 #[v, .int .i64 i, .slice (some ⟨vb, 0, none⟩) 1 1] w (InsPost8 w base l i t) := by
  by_cases he : i = l.length
  · subst he
    exact prInsert_end h hb hl ht
  · rcases Joins.ownsRow_forms h with ⟨_, hz⟩ | ⟨g, cap, rfl⟩
    · omega
    · by_cases hr : l.length + 1 ≤ cap
      · exact prInsert_room h hb (by omega) hr ht (fun e => hne (by rw [e]; rfl))
      · exact prInsert_grow h hb (by omega) hr hl ht
end Go.Proofs.YtgjkjkeeblbjlaaGreatDoor

namespace Go.Proofs.YtgjkjkeeblbjlaaGreatDoor
open Go.RowKit

/-- The cells of rows. -/
def PrRead (w : World) (g : Nat) (l : List PProd) : Prop :=
  ∀ j x, l[j]? = some x → w.cell? ⟨g, j * 5, none⟩ = some (.int .i64 x.pid) ∧ w.cell? ⟨g, j * 5 + 1, none⟩ = some (.int .i64 x.epoch) ∧ w.cell? ⟨g, j * 5 + 2, none⟩ = some (.int .i64 x.seq) ∧ w.cell? ⟨g, j * 5 + 3, none⟩ = some (.int .i64 x.n) ∧ w.cell? ⟨g, j * 5 + 4, none⟩ = some (.int .i64 x.base)

theorem PrRead.below {w w' : World} {g : Nat} {l : List PProd} (h : PrRead w g l) (hb : Below w.heap.size w w') (hg : g < w.heap.size) : PrRead w' g l := by
  intro j x hx
  obtain ⟨h0, h1, h2, h3, h4⟩ := h j x hx
  exact ⟨(hb.cell (p := ⟨g, j * 5, none⟩) hg).trans h0, (hb.cell (p := ⟨g, j * 5 + 1, none⟩) hg).trans h1, (hb.cell (p := ⟨g, j * 5 + 2, none⟩) hg).trans h2, (hb.cell (p := ⟨g, j * 5 + 3, none⟩) hg).trans h3, (hb.cell (p := ⟨g, j * 5 + 4, none⟩) hg).trans h4⟩

theorem PrRead.own {w : World} {base g n cap : Nat} {l : List PProd} (h : w.ownsRow base 91 5 (.slice (some ⟨g, 0, none⟩) n cap) l.length (prCells l)) : PrRead w g l := by
  intro j x hx
  obtain ⟨e0, e1, e2, e3, e4⟩ := prCells_at l j x hx
  have hlt := (List.getElem?_eq_some_iff.1 hx).1
  obtain ⟨rfl, _⟩ : n = l.length ∧ True := by
    rcases h.2 with ⟨h2, _⟩ | ⟨g2, c2, cur, h2, _⟩
    · cases h2
    · injection h2 with _ h3; exact ⟨h3, trivial⟩
  exact ⟨(h.cellAt _ (by omega)).trans e0, (h.cellAt _ (by omega)).trans e1, (h.cellAt _ (by omega)).trans e2, (h.cellAt _ (by omega)).trans e3, (h.cellAt _ (by omega)).trans e4⟩

/-- A function tells q of a row, whatever has become of the blocks in S and of new ones. -/
def PPredFr (S : Nat → Prop) (w0 : World) (gf : Nat) (lb : Array Value) (q : PProd → Bool) : Prop :=
  ∀ (W : World) (x : PProd), Fr S w0 W → Calls Tryz.prog gf (#[x.val] ++ lb) W fun e w' => e = .returned (.bool (q x)) ∧ Below W.heap.size W w'

/-- Where the first one is of which q holds. -/
def PIdx (q : PProd → Bool) (l : List PProd) (r : Int) : Prop :=
  (r = -1 ∧ ∀ x ∈ l, q x = false) ∨ ∃ (k : Nat) (x : PProd), r = k ∧ l[k]? = some x ∧ q x = true ∧ ∀ y ∈ l.take k, q y = false

set_option maxHeartbeats 1000000 in
theorem indexPr_any (g cap : Nat) (l : List PProd) (gf : Nat) (lb : Array Value) (q : PProd → Bool) (w : World) (hl : l.length ≤ 1000000000) (hg : g < w.heap.size) (hc : PrRead w g l)
    (eg : ∀ args w, (callFunc gf args).run Tryz.prog w = .ok (.enter gf args) w) (hp : PPredFr (fun _ => False) w gf lb q) :
    Calls Tryz.prog 84 #[.slice (some ⟨g, 0, none⟩) l.length cap, .func (.func gf) #[] lb] w
      fun e w' => (∃ r : Int, e = .returned (.int .i64 r) ∧ PIdx q l r) ∧ Below w.heap.size w w' := by
  have HC := hid hc
  have HP := hid hp
  clear hc hp
  go_enter Tryz.func84, Tryz.ntmps84
  go_wp2_with fail
  go_loopw [8] (fun c wr => ∃ k : Nat, k ≤ l.length ∧ c = .int .i64 k ∧ Below w.heap.size w wr ∧ ∀ x ∈ l.take k, q x = false) (fun c _ => l.length - (intOf c).toNat)
  case atStart => exact ⟨0, by omega, rfl, Below.refl _ _, by simp⟩
  case round =>
    obtain ⟨k, hk, rfl, hbel, hall⟩ := hrel
    have HALL := hid hall
    have HB := hid hbel
    clear hall hbel
    by_cases hlt : k < l.length
    · obtain ⟨x, hx⟩ : ∃ x, l[k]? = some x := ⟨_, List.getElem?_eq_getElem hlt⟩
      obtain ⟨c0, c1, c2, c3, c4⟩ := HC.out.below HB.out hg k x hx
      have hk0 : (0 : Int) ≤ (k : Int) := by omega
      have hk1 : (k : Int) < (l.length : Int) := by omega
      have hcall := HP.out wr x (Fr.of_below HB.out)
      have htk : l.take (k + 1) = l.take k ++ [x] := by rw [List.take_add_one, hx]; rfl
      have HTK := hid htk
      have HX := hid hx
      clear htk hx
      unfold PProd.val at hcall
      cases hq : q x with
      | true =>
        have HQ := hid hq
        rw [hq] at hcall
        clear hq
        go_wp2_with fail
        refine hcall.mono ?_
        rintro e w' ⟨rfl, hb'⟩
        go_wp2_with fail
        go_ret
        exact ⟨⟨k, rfl, .inr ⟨k, x, rfl, HX.out, HQ.out, HALL.out⟩⟩, bel_next HB.out hb'⟩
      | false =>
        have HQ := hid hq
        rw [hq] at hcall
        clear hq
        go_wp2_with fail
        refine hcall.mono ?_
        rintro e w' ⟨rfl, hb'⟩
        go_wp2_with fail
        go_roundw
        case rel =>
          refine ⟨k + 1, by omega, by go_num, bel_next HB.out hb', fun y hy => ?_⟩
          rw [HTK.out] at hy
          rcases List.mem_append.1 hy with hy | hy
          · exact HALL.out y hy
          · simp only [List.mem_singleton] at hy; rw [hy]; exact HQ.out
        case measure => simp [intOf]; omega
    · obtain rfl : k = l.length := by omega
      go_wp2_with fail
      go_ret
      exact ⟨⟨-1, rfl, .inl ⟨rfl, fun x hx => HALL.out x (by rw [List.take_length]; exact hx)⟩⟩, HB.out⟩

set_option maxHeartbeats 1000000 in
theorem indexPr_nil (gf : Nat) (lb : Array Value) (w : World) :
    Calls Tryz.prog 84 #[.slice none 0 0, .func (.func gf) #[] lb] w fun e w' => e = .returned (.int .i64 (-1)) ∧ w = w' := by
  go_enter Tryz.func84, Tryz.ntmps84
  go_wp2_with fail
  go_loopw [8] (fun c wr => c = .int .i64 0 ∧ wr = w) (fun _ _ => 0)
  case atStart => exact ⟨rfl, rfl⟩
  case round =>
    obtain ⟨rfl, rfl⟩ := hrel
    go_wp2_with fail
    go_ret
    exact ⟨rfl, rfl⟩
end Go.Proofs.YtgjkjkeeblbjlaaGreatDoor

namespace Go.Proofs.YtgjkjkeeblbjlaaGreatDoor
open Go.RowKit

/-- Where a producer's row stands, or is to stand. -/
def FindP (l : List PProd) (pid : Int) (i : Nat) (ok : Bool) : Prop :=
  (ok = true ∧ ∃ p, l[i]? = some p ∧ p.pid = pid ∧ ∀ y ∈ l.take i, y.pid ≠ pid) ∨ (ok = false ∧ (∀ y ∈ l, y.pid ≠ pid) ∧ i ≤ l.length ∧ (∀ y ∈ l.take i, y.pid ≤ pid) ∧ ∀ y, l[i]? = some y → pid < y.pid)

theorem prodOf_none {l : List PProd} {pid : Int} (h : ∀ y ∈ l, y.pid ≠ pid) : prodOf l pid = none := by
  unfold prodOf
  rw [List.find?_eq_none]
  intro y hy
  simpa using h y hy

theorem prodOf_at : ∀ {l : List PProd} {i : Nat} {p : PProd} {pid : Int}, l[i]? = some p → p.pid = pid → (∀ y ∈ l.take i, y.pid ≠ pid) → prodOf l pid = some p
  | [], i, p, pid, h, _, _ => by simp at h
  | x :: l, 0, p, pid, h, e, _ => by
    simp at h
    subst h
    unfold prodOf
    rw [List.find?_cons_of_pos (by simpa using e)]
  | x :: l, i + 1, p, pid, h, e, hn => by
    have h1 := hn x (by simp)
    have ih := prodOf_at (l := l) (i := i) (p := p) (pid := pid) (by simpa using h) e (fun y hy => hn y (by simp [hy]))
    unfold prodOf at ih ⊢
    rw [List.find?_cons_of_neg (by simpa using h1)]
    exact ih

theorem setP_at : ∀ {l : List PProd} {i : Nat} {p t : PProd}, l[i]? = some p → p.pid = t.pid → (∀ y ∈ l.take i, y.pid ≠ t.pid) → setP l t = l.set i t
  | [], i, p, t, h, _, _ => by simp at h
  | x :: l, 0, p, t, h, e, _ => by
    simp at h
    subst h
    rw [setP, if_pos e, List.set_cons_zero]
  | x :: l, i + 1, p, t, h, e, hn => by
    have h1 := hn x (by simp)
    rw [setP, if_neg h1, List.set_cons_succ, setP_at (by simpa using h) e (fun y hy => hn y (by simp [hy]))]

theorem insP_at : ∀ {l : List PProd} {i : Nat} {t : PProd}, i ≤ l.length → (∀ y ∈ l.take i, y.pid ≤ t.pid) → (∀ y, l[i]? = some y → t.pid < y.pid) → insP l t = l.take i ++ t :: l.drop i
  | [], i, t, h, _, _ => by
    have : i = 0 := by simpa using h
    subst this
    rfl
  | x :: l, 0, t, _, _, hg => by
    have h1 := hg x rfl
    rw [insP, if_neg (by omega)]
    rfl
  | x :: l, i + 1, t, h, hl, hg => by
    have h1 := hl x (by simp)
    rw [insP, if_pos h1, insP_at (i := i) (by simpa using h) (fun y hy => hl y (by simp [hy])) (fun y hy => hg y (by simpa using hy))]
    rfl

set_option maxHeartbeats 1000000 in
theorem dfind1_any {b : Nat} {p : Int} {w0 : World} {S : Nat → Prop} (hb : Blk w0 b #[.int .i64 p] 3) (hS : ¬ S b) :
    PPredFr S w0 85 #[.pointer (some ⟨b, 0, none⟩)] (fun x => decide (x.pid = p)) := by
  intro W x hW
  have hbx := hb.fr hW hS
  have c0 := hbx.cell (i := 0) (v := .int .i64 p) rfl
  have hlt := hbx.lt
  have hne : b ≠ W.heap.size := by omega
  have HB := hid (bel_alloc (Below.refl W.heap.size W) (.cells #[.int .i64 x.pid, .int .i64 x.epoch, .int .i64 x.seq, .int .i64 x.n, .int .i64 x.base] 91))
  unfold PProd.val
  show Calls Tryz.prog 85 #[.agg #[.int .i64 x.pid, .int .i64 x.epoch, .int .i64 x.seq, .int .i64 x.n, .int .i64 x.base], .pointer (some ⟨b, 0, none⟩)] W fun e w' => e = .returned (.bool (decide (x.pid = p))) ∧ Below W.heap.size W w'
  clear hb hbx hW
  by_cases h : x.pid = p
  · rw [decide_eq_true h]
    have d1 : decide (x.pid = p) = true := decide_eq_true h
    have d2 : (x.pid == p) = true := by simpa using h
    clear h
    go_enter Tryz.func85, Tryz.ntmps85
    go_wp2_with fail
    go_ret
    exact ⟨rfl, HB.out⟩
  · rw [decide_eq_false h]
    have d1 : decide (x.pid = p) = false := decide_eq_false h
    have d2 : (x.pid == p) = false := by simpa using h
    clear h
    go_enter Tryz.func85, Tryz.ntmps85
    go_wp2_with fail
    go_ret
    exact ⟨rfl, HB.out⟩

set_option maxHeartbeats 1000000 in
theorem dfind2_any {b : Nat} {p : Int} {w0 : World} {S : Nat → Prop} (hb : Blk w0 b #[.int .i64 p] 3) (hS : ¬ S b) :
    PPredFr S w0 86 #[.pointer (some ⟨b, 0, none⟩)] (fun x => decide (p < x.pid)) := by
  intro W x hW
  have hbx := hb.fr hW hS
  have c0 := hbx.cell (i := 0) (v := .int .i64 p) rfl
  have hlt := hbx.lt
  have hne : b ≠ W.heap.size := by omega
  have HB := hid (bel_alloc (Below.refl W.heap.size W) (.cells #[.int .i64 x.pid, .int .i64 x.epoch, .int .i64 x.seq, .int .i64 x.n, .int .i64 x.base] 91))
  unfold PProd.val
  show Calls Tryz.prog 86 #[.agg #[.int .i64 x.pid, .int .i64 x.epoch, .int .i64 x.seq, .int .i64 x.n, .int .i64 x.base], .pointer (some ⟨b, 0, none⟩)] W fun e w' => e = .returned (.bool (decide (p < x.pid))) ∧ Below W.heap.size W w'
  clear hb hbx hW
  by_cases h : p < x.pid
  · rw [decide_eq_true h]
    have d1 : decide (p < x.pid) = true := decide_eq_true h
    clear h
    go_enter Tryz.func86, Tryz.ntmps86
    go_wp2_with fail
    go_ret
    exact ⟨rfl, HB.out⟩
  · rw [decide_eq_false h]
    have d1 : decide (p < x.pid) = false := decide_eq_false h
    clear h
    go_enter Tryz.func86, Tryz.ntmps86
    go_wp2_with fail
    go_ret
    exact ⟨rfl, HB.out⟩

def FindPost (w : World) (l : List PProd) (pid : Int) (e : Ending) (w' : World) : Prop :=
  ∃ (i : Nat) (ok : Bool), e = .returned (.tuple #[.int .i64 i, .bool ok]) ∧ FindP l pid i ok ∧ Below w.heap.size w w'

set_option maxHeartbeats 2000000 in
theorem dfind_any {w : World} {base : Nat} {v : Value} {l : List PProd} (pid : Int) (h : w.ownsRow base 91 5 v l.length (prCells l)) (hl : l.length ≤ 1000000) :
    Calls Tryz.prog 56 #[v, .int .i64 pid] w (FindPost w l pid) := by
  have hb1 : Below w.heap.size w (w.alloc (.cells #[.int .i64 pid] 3)) := bel_alloc (Below.refl _ _) _
  have hk1 := Blk.new w #[.int .i64 pid] 3
  have e1 : ∀ args w, (callFunc 85 args).run Tryz.prog w = .ok (.enter 85 args) w := enters_of Tryz.func85 (by kernel_rfl) rfl
  have e2 : ∀ args w, (callFunc 86 args).run Tryz.prog w = .ok (.enter 86 args) w := enters_of Tryz.func86 (by kernel_rfl) rfl
  rcases Joins.ownsRow_forms h with ⟨rfl, hz⟩ | ⟨g, cap, rfl⟩
  · have hln : l = [] := List.length_eq_zero_iff.1 hz
    subst hln
    have HB1 := hid hb1
    clear h hb1 hk1 hz e1 e2
    go_enter Tryz.func56, Tryz.ntmps56
    go_wp2_with fail
    refine (indexPr_nil _ _ _).mono ?_
    rintro e w2 ⟨rfl, rfl⟩
    go_wp2_with fail
    refine (indexPr_nil _ _ _).mono ?_
    rintro e w2 ⟨rfl, rfl⟩
    go_wp2_with fail
    go_ret2
    exact ⟨0, false, rfl, .inr ⟨rfl, by simp, by simp, by simp, by simp⟩, HB1.out⟩
  · have hg := h.lt g rfl
    have hg1 : g < (w.alloc (.cells #[.int .i64 pid] 3)).heap.size := by simp; omega
    have hrow1 := h.alloc (.cells #[.int .i64 pid] 3)
    have HI1 := hid (indexPr_any g cap l _ _ _ _ (by omega) hg1 (PrRead.own hrow1) e1 (dfind1_any (S := fun _ => False) hk1 (fun h => h)))
    have HB1 := hid hb1
    have HK1 := hid hk1
    have HR1 := hid hrow1
    clear h hb1 hk1 hrow1 hg hg1 e1
    go_enter Tryz.func56, Tryz.ntmps56
    go_wp2_with fail
    refine HI1.out.mono ?_
    rintro e w2 ⟨⟨r, rfl, hidx⟩, hb2⟩
    rcases hidx with ⟨rfl, hall⟩ | ⟨k, x, rfl, hx, hq, hpre⟩
    · have HALL := hid hall
      have hrow2 := own_bel HR1.out hb2
      have hg2 := (hrow2.lt g rfl).2
      have HI2 := hid (indexPr_any g cap l _ _ _ _ (by omega) hg2 (PrRead.own hrow2) e2 (dfind2_any (S := fun _ => False) (HK1.out.below' hb2) (fun h => h)))
      have HB2 := hid (bel_next HB1.out hb2)
      clear hall hrow2 hg2 hb2 HI1 HB1 HK1 HR1 e2
      go_wp2_with fail
      refine HI2.out.mono ?_
      rintro e w3 ⟨⟨r, rfl, hidx⟩, hb3⟩
      have HB3 := hid (bel_next HB2.out hb3)
      have hne : ∀ y ∈ l, y.pid ≠ pid := fun y hy => of_decide_eq_false (HALL.out y hy)
      rcases hidx with ⟨rfl, hall2⟩ | ⟨k, x, rfl, hx, hq, hpre⟩
      · have HP : Hid (FindP l pid l.length false) := hid (.inr ⟨rfl, hne, Nat.le_refl _, fun y hy => by
          have h9 := of_decide_eq_false (hall2 y (List.mem_of_mem_take hy)); omega, fun y hy => by simp at hy⟩)
        clear hall2 hne hb3 HI2
        go_wp2_with fail
        go_ret2
        exact ⟨_, _, rfl, HP.out, HB3.out⟩
      · have hk := (List.getElem?_eq_some_iff.1 hx).1
        have HP : Hid (FindP l pid k false) := hid (.inr ⟨rfl, hne, by omega, fun y hy => by
          have h9 := of_decide_eq_false (hpre y hy); omega, fun y hy => by
          rw [hx] at hy
          injection hy with hy
          subst hy
          exact of_decide_eq_true hq⟩)
        have hk0 : decide ((0 : Int) ≤ (k : Int)) = true := decide_eq_true (by omega)
        clear hx hq hpre hne hb3 HI2
        go_wp2_with fail
        go_ret2
        exact ⟨_, _, rfl, HP.out, HB3.out⟩
    · have hk := (List.getElem?_eq_some_iff.1 hx).1
      have HP : Hid (FindP l pid k true) := hid (.inl ⟨rfl, x, hx, of_decide_eq_true hq, fun y hy => of_decide_eq_false (hpre y hy)⟩)
      have HB2 := hid (bel_next HB1.out hb2)
      have hk0 : decide ((0 : Int) ≤ (k : Int)) = true := decide_eq_true (by omega)
      clear hx hq hpre hb2 HI1
      go_wp2_with fail
      go_ret2
      exact ⟨_, _, rfl, HP.out, HB2.out⟩
end Go.Proofs.YtgjkjkeeblbjlaaGreatDoor

namespace Go.Proofs.YtgjkjkeeblbjlaaGreatDoor
open Go.RowKit

/-- Rows that may be. -/
def ProdsIn (l : List PProd) : Prop := (∀ p ∈ l, 0 ≤ p.n ∧ p.n ≤ 64) ∧ l.length ≤ 1000000

theorem FindP.of {l : List PProd} {pid : Int} {i : Nat} {ok : Bool} (h : FindP l pid i ok) : (ok = true ∧ ∃ p, l[i]? = some p ∧ prodOf l pid = some p) ∨ (ok = false ∧ prodOf l pid = none) := by
  rcases h with ⟨h1, p, h2, h3, h4⟩ | ⟨h1, h2, _⟩
  · exact .inl ⟨h1, p, h2, prodOf_at h2 h3 h4⟩
  · exact .inr ⟨h1, prodOf_none h2⟩

def LookPost (w : World) (r : Int × Bool × Int) (e : Ending) (w' : World) : Prop := e = .returned (.tuple #[.int .i64 r.1, .bool r.2.1, .int .i64 r.2.2]) ∧ Below w.heap.size w w'

def LookMid (w : World) (b : PBat) (K : Value) (p : PProd) (bb pb : Nat) (wx : World) : Prop :=
  Below w.heap.size w wx ∧ Blk wx bb #[.int .i64 b.kind, .int .i64 b.pid, .int .i64 b.epoch, .int .i64 b.seq, K] 31 ∧ Blk wx pb #[.int .i64 p.pid, .int .i64 p.epoch, .int .i64 p.seq, .int .i64 p.n, .int .i64 p.base] 91

set_option maxHeartbeats 8000000 in
theorem look_any {w : World} {base : Nat} {v K : Value} {l : List PProd} (b : PBat) (h : w.ownsRow base 91 5 v l.length (prCells l)) (hP : ProdsIn l) (hK : InRecs w K b.l) (ht : ∀ r ∈ b.l, r.text.length ≤ 1000000) (hn : b.l.length ≤ 1000000) :
    Calls Tryz.prog 38 #[v, b.val K] w (LookPost w (lookP l b)) := by
  obtain ⟨ad, cap, rfl, hcap, hmax⟩ := hK.form
  obtain ⟨r, hr⟩ : ∃ r, lookP l b = r := ⟨_, rfl⟩
  rw [hr]
  unfold lookP at hr
  have HR := hid hr
  have HROW := hid h
  have HPI := hid hP
  have HK := hid hK
  have hb1 : Below w.heap.size w (w.alloc (.cells #[.int .i64 b.kind, .int .i64 b.pid, .int .i64 b.epoch, .int .i64 b.seq, .slice ad b.l.length cap] 31)) := bel_alloc (Below.refl _ _) _
  have HCK : Hid (∀ W, Below w.heap.size w W → Calls Tryz.prog 40 #[b.val (.slice ad b.l.length cap)] W fun e w' => e = .returned (.int .i64 b.code) ∧ Below W.heap.size W w') := hid (fun W hW => bCheck_any b _ W (HK.out.below hW) ht hn)
  have HB1 := hid hb1
  have HK1 := hid (Blk.new w #[.int .i64 b.kind, .int .i64 b.pid, .int .i64 b.epoch, .int .i64 b.seq, .slice ad b.l.length cap] 31)
  clear h hP hK hb1 hr ht hcap
  unfold PBat.val at HCK ⊢
  by_cases hok : b.ok
  · have hcode : b.code = 0 := if_pos hok
    rw [hcode] at HCK
    have HOK := hid hok
    clear hok hcode
    by_cases hk2 : 2 < b.kind
    · have hr := HR.out
      rw [if_pos (.inr hk2)] at hr
      subst hr
      have d1 : decide ((2 : Int) < b.kind) = true := decide_eq_true hk2
      clear hk2
      go_enter Tryz.func38, Tryz.ntmps38
      go_wp2_with fail
      refine (HCK.out _ HB1.out).mono ?_
      rintro e w2 ⟨rfl, hb2⟩
      have x0 := (HK1.out.below' hb2).cell (i := 0) (v := .int .i64 b.kind) rfl
      have HB2 := hid (bel_next HB1.out hb2)
      clear hb2
      go_wp2_with fail
      go_ret3
      exact ⟨rfl, HB2.out⟩
    · have hr := HR.out
      rw [if_neg (fun h9 => h9.elim (fun h8 => h8 HOK.out) hk2)] at hr
      have d1 : decide ((2 : Int) < b.kind) = false := decide_eq_false hk2
      clear hk2 HR
      by_cases hp0 : b.pid = 0
      · rw [if_pos hp0] at hr
        subst hr
        have e1 : decide (b.pid = 0) = true := decide_eq_true hp0
        have e2 : (b.pid == 0) = true := by simpa using hp0
        clear hp0
        go_enter Tryz.func38, Tryz.ntmps38
        go_wp2_with fail
        refine (HCK.out _ HB1.out).mono ?_
        rintro e w2 ⟨rfl, hb2⟩
        have x0 := (HK1.out.below' hb2).cell (i := 0) (v := .int .i64 b.kind) rfl
        have x1 := (HK1.out.below' hb2).cell (i := 1) (v := .int .i64 b.pid) rfl
        have HB2 := hid (bel_next HB1.out hb2)
        clear hb2
        go_wp2_with fail
        go_ret3
        exact ⟨rfl, HB2.out⟩
      · rw [if_neg hp0] at hr
        have HR := hid hr
        have e1 : decide (b.pid = 0) = false := decide_eq_false hp0
        have e2 : (b.pid == 0) = false := by simpa using hp0
        clear hp0 hr
        go_enter Tryz.func38, Tryz.ntmps38
        go_wp2_with fail
        refine (HCK.out _ HB1.out).mono ?_
        rintro e w2 ⟨rfl, hb2⟩
        have hk2 := HK1.out.below' hb2
        have x0 := hk2.cell (i := 0) (v := .int .i64 b.kind) rfl
        have x1 := hk2.cell (i := 1) (v := .int .i64 b.pid) rfl
        have hb3 : Below w2.heap.size w2 (w2.alloc (.cells #[.int .i64 b.pid, .int .i64 0, .int .i64 0, .int .i64 0, .int .i64 0] 91)) := bel_alloc (Below.refl _ _) _
        have HB3 := hid (bel_next (bel_next HB1.out hb2) hb3)
        have HK3 := hid (hk2.below' hb3)
        have HP3 := hid (Blk.new w2 #[.int .i64 b.pid, .int .i64 0, .int .i64 0, .int .i64 0, .int .i64 0] 91)
        have HROW3 := hid (own_bel HROW.out HB3.out)
        have hlt3 := hk2.lt
        have x1' := HK3.out.cell (i := 1) (v := .int .i64 b.pid) rfl
        clear hb2 hk2 hb3 HB1 HK1 HCK HROW
        go_wp2_with fail
        generalize w2.alloc (.cells #[.int .i64 b.pid, .int .i64 0, .int .i64 0, .int .i64 0, .int .i64 0] 91) = w3 at HB3 HK3 HP3 HROW3 x1' ⊢
        generalize w2.heap.size = pb at HP3 hlt3 ⊢
        refine (dfind_any b.pid HROW3.out HPI.out.2).mono ?_
        rintro e w4 ⟨i, ok, rfl, hfp, hb4⟩
        have HB4 := hid (bel_next HB3.out hb4)
        have HK4 := hid (HK3.out.below' hb4)
        have HP4 := hid (HP3.out.below' hb4)
        have HROW4 := hid (own_bel HROW3.out hb4)
        have hbw : w.heap.size ≤ pb := by omega
        obtain ⟨p0, hp0⟩ : ∃ p0, (prodOf l b.pid).getD ⟨b.pid, 0, 0, 0, 0⟩ = p0 := ⟨_, rfl⟩
        have hr := HR.out
        rw [hp0] at hr
        have HFO := hid hfp.of
        have HP0 := hid hp0
        have HR2 := hid hr
        clear hb4 hfp HB3 HK3 HP3 HROW3 x1' x0 x1 hp0 hr HR
        go_upto_if 31 with fail
        go_cut [35] (fun _ wx => LookMid w b (.slice ad b.l.length cap) p0 w.heap.size pb wx)
        case first =>
          rcases HFO.out with ⟨rfl, p, hlp, hpo⟩ | ⟨rfl, hpo⟩
          · have hp0 := HP0.out
            rw [hpo] at hp0
            have hp0 : p = p0 := hp0
            subst hp0
            obtain ⟨g, cp, rfl⟩ : ∃ g cp, v = .slice (some ⟨g, 0, none⟩) l.length cp := by
              rcases Joins.ownsRow_forms HROW4.out with ⟨_, hz⟩ | ⟨g, cp, rfl⟩
              · have := (List.getElem?_eq_some_iff.1 hlp).1; omega
              · exact ⟨g, cp, rfl⟩
            obtain ⟨c0, c1, c2, c3, c4⟩ := PrRead.own HROW4.out i p hlp
            have hi := (List.getElem?_eq_some_iff.1 hlp).1
            have hi0 : (0 : Int) ≤ (i : Int) := by omega
            have hi1 : (i : Int) < (l.length : Int) := by omega
            have z0 := HP4.out.cell (i := 0) (v := .int .i64 b.pid) rfl
            have z1 := HP4.out.cell (i := 1) (v := .int .i64 0) rfl
            have z2 := HP4.out.cell (i := 2) (v := .int .i64 0) rfl
            have z3 := HP4.out.cell (i := 3) (v := .int .i64 0) rfl
            have z4 := HP4.out.cell (i := 4) (v := .int .i64 0) rfl
            have f0 := HP4.out.free 0
            have f1 := HP4.out.free 1
            have f2 := HP4.out.free 2
            have f3 := HP4.out.free 3
            have f4 := HP4.out.free 4
            have hs := ((((HP4.out.set 0 (.int .i64 p.pid)).set 1 (.int .i64 p.epoch)).set 2 (.int .i64 p.seq)).set 3 (.int .i64 p.n)).set 4 (.int .i64 p.base)
            have hf := (((((Fr.refl (fun k => k = pb) w4).setCell (p := ⟨pb, 0, none⟩) (.inl rfl) (.int .i64 p.pid)).setCell (p := ⟨pb, 1, none⟩) (.inl rfl) (.int .i64 p.epoch)).setCell (p := ⟨pb, 2, none⟩) (.inl rfl) (.int .i64 p.seq)).setCell (p := ⟨pb, 3, none⟩) (.inl rfl) (.int .i64 p.n)).setCell (p := ⟨pb, 4, none⟩) (.inl rfl) (.int .i64 p.base)
            have HS := hid hs
            have HF := hid hf
            have HFO' := hid (HK4.out.fr hf (fun e => by omega))
            have HBF := hid (((((HB4.out.setCell (p := ⟨pb, 0, none⟩) hbw (.int .i64 p.pid)).setCell (p := ⟨pb, 1, none⟩) hbw (.int .i64 p.epoch)).setCell (p := ⟨pb, 2, none⟩) hbw (.int .i64 p.seq)).setCell (p := ⟨pb, 3, none⟩) hbw (.int .i64 p.n)).setCell (p := ⟨pb, 4, none⟩) hbw (.int .i64 p.base))
            clear hs hf hlp hpo
            go_wp2_with fail
            go_meet
            exact ⟨HBF.out, HFO'.out, by simpa using HS.out⟩
          · have hp0 := HP0.out
            rw [hpo] at hp0
            have hp0 : (⟨b.pid, 0, 0, 0, 0⟩ : PProd) = p0 := hp0
            subst hp0
            clear hpo
            go_wp2_with fail
            go_meet
            exact ⟨HB4.out, HK4.out, HP4.out⟩
        case rest =>
          have hp0n : 0 ≤ p0.n ∧ p0.n ≤ 64 := by
            rcases HFO.out with ⟨_, p, hlp, hpo⟩ | ⟨_, hpo⟩
            · have h9 := HP0.out
              rw [hpo] at h9
              have h9 : p = p0 := h9
              subst h9
              exact HPI.out.1 p (List.mem_of_getElem? hlp)
            · have h9 := HP0.out
              rw [hpo] at h9
              have h9 : (⟨b.pid, 0, 0, 0, 0⟩ : PProd) = p0 := h9
              subst h9
              exact ⟨(by decide : (0 : Int) ≤ 0), (by decide : (0 : Int) ≤ 64)⟩
          obtain ⟨hb5, hk5, hp5⟩ := hcut
          clear HB4 HK4 HP4 HROW4 HFO HP0 HPI
          have x1 := hk5.cell (i := 1) (v := .int .i64 b.pid) rfl
          have x2 := hk5.cell (i := 2) (v := .int .i64 b.epoch) rfl
          have y1 := hp5.cell (i := 1) (v := .int .i64 p0.epoch) rfl
          have HB5 := hid hb5
          have HK5 := hid hk5
          have HP5 := hid hp5
          clear hb5 hk5 hp5
          have hr := HR2.out
          by_cases hlt : b.epoch < p0.epoch
          · rw [if_pos hlt] at hr
            subst hr
            have d2 : decide (b.epoch < p0.epoch) = true := decide_eq_true hlt
            clear hlt
            go_wp2_with fail
            go_ret3
            exact ⟨rfl, HB5.out⟩
          · rw [if_neg hlt] at hr
            have d2 : decide (b.epoch < p0.epoch) = false := decide_eq_false hlt
            obtain ⟨p, hp⟩ : ∃ p : PProd, (if p0.epoch < b.epoch then (⟨b.pid, b.epoch, 0, 0, 0⟩ : PProd) else p0) = p := ⟨_, rfl⟩
            rw [hp] at hr
            have HR3 := hid hr
            have HPP := hid hp
            clear hlt hr hp HR2
            by_cases hgt : p0.epoch < b.epoch
            · have hpp := HPP.out
              rw [if_pos hgt] at hpp
              have d3 : decide (p0.epoch < b.epoch) = true := decide_eq_true hgt
              have z0 := HP5.out.cell (i := 0) (v := .int .i64 p0.pid) rfl
              have z2 := HP5.out.cell (i := 2) (v := .int .i64 p0.seq) rfl
              have z3 := HP5.out.cell (i := 3) (v := .int .i64 p0.n) rfl
              have z4 := HP5.out.cell (i := 4) (v := .int .i64 p0.base) rfl
              have f0 := HP5.out.free 0
              have f1 := HP5.out.free 1
              have f2 := HP5.out.free 2
              have f3 := HP5.out.free 3
              have f4 := HP5.out.free 4
              have hs := ((((HP5.out.set 0 (.int .i64 b.pid)).set 1 (.int .i64 b.epoch)).set 2 (.int .i64 0)).set 3 (.int .i64 0)).set 4 (.int .i64 0)
              have hf := (((((Fr.refl (fun k => k = pb) wc).setCell (p := ⟨pb, 0, none⟩) (.inl rfl) (.int .i64 b.pid)).setCell (p := ⟨pb, 1, none⟩) (.inl rfl) (.int .i64 b.epoch)).setCell (p := ⟨pb, 2, none⟩) (.inl rfl) (.int .i64 0)).setCell (p := ⟨pb, 3, none⟩) (.inl rfl) (.int .i64 0)).setCell (p := ⟨pb, 4, none⟩) (.inl rfl) (.int .i64 0)
              have HFO' := HK5.out.fr hf (fun e => by omega)
              have HBF := ((((HB5.out.setCell (p := ⟨pb, 0, none⟩) hbw (.int .i64 b.pid)).setCell (p := ⟨pb, 1, none⟩) hbw (.int .i64 b.epoch)).setCell (p := ⟨pb, 2, none⟩) hbw (.int .i64 0)).setCell (p := ⟨pb, 3, none⟩) hbw (.int .i64 0)).setCell (p := ⟨pb, 4, none⟩) hbw (.int .i64 0)
              have hms : LookMid w b (.slice ad b.l.length cap) ⟨b.pid, b.epoch, 0, 0, 0⟩ w.heap.size pb (((((wc.setCell ⟨pb, 0, none⟩ (.int .i64 b.pid)).setCell ⟨pb, 1, none⟩ (.int .i64 b.epoch)).setCell ⟨pb, 2, none⟩ (.int .i64 0)).setCell ⟨pb, 3, none⟩ (.int .i64 0)).setCell ⟨pb, 4, none⟩ (.int .i64 0)) := ⟨HBF, HFO', by simpa using hs⟩
              rw [hpp] at hms
              have HMID := hid hms
              have hcp : p.n = 0 := by rw [← hpp]
              have hpn : 0 ≤ p.n ∧ p.n ≤ 64 := by omega
              clear hs hf hgt HFO' HBF hms hpp hcp HPP hp0n
              clear HB5 HK5 HP5
              go_upto_region 13 with fail
              generalize ((((wc.setCell ⟨pb, 0, none⟩ (.int .i64 b.pid)).setCell ⟨pb, 1, none⟩ (.int .i64 b.epoch)).setCell ⟨pb, 2, none⟩ (.int .i64 0)).setCell ⟨pb, 3, none⟩ (.int .i64 0)).setCell ⟨pb, 4, none⟩ (.int .i64 0) = wd at HMID ⊢
              have hsq := HOK.out.1.1.2.2
              unfold inNum at hsq
              obtain ⟨hb6, hk6, hp6⟩ := HMID.out
              clear HMID
              have x3 := hk6.cell (i := 3) (v := .int .i64 b.seq) rfl
              have x4 := hk6.cell (i := 4) (v := .slice ad b.l.length cap) rfl
              have y2 := hp6.cell (i := 2) (v := .int .i64 p.seq) rfl
              have y3 := hp6.cell (i := 3) (v := .int .i64 p.n) rfl
              have y4 := hp6.cell (i := 4) (v := .int .i64 p.base) rfl
              have HB6 := hid hb6
              clear hb6 hk6 hp6
              have hw : wrap64 (b.seq - p.n) = b.seq - p.n := IntWalk.wrap64_in _ (by omega)
              have HW := hid hw
              have hr := HR3.out
              clear hw HOK
              by_cases h1 : 0 < p.n
              · have d1' : decide (0 < p.n) = true := decide_eq_true h1
                have d9 : decide (p.n ≤ 0) = false := decide_eq_false (by omega)
                by_cases h2 : b.seq = p.seq
                · have d2 : decide (b.seq = p.seq) = true := decide_eq_true h2
                  have e2' : (b.seq == p.seq) = true := by simpa using h2
                  by_cases h3 : (b.l.length : Int) = p.n
                  · have d3 : decide ((b.l.length : Int) = p.n) = true := decide_eq_true h3
                    have e3 : ((b.l.length : Int) == p.n) = true := by simpa using h3
                    rw [if_pos ⟨h1, h2, h3⟩] at hr
                    subst hr
                    clear h1 h2 h3
                    go_wp2_with fail
                    go_ret3
                    exact ⟨rfl, HB6.out⟩
                  · have d3 : decide ((b.l.length : Int) = p.n) = false := decide_eq_false h3
                    have e3 : ((b.l.length : Int) == p.n) = false := by simpa using h3
                    have d4 : decide (wrap64 (b.seq - p.n) = p.seq) = false := by rw [HW.out]; exact decide_eq_false (by omega)
                    have e4 : (wrap64 (b.seq - p.n) == p.seq) = false := by rw [HW.out]; simp; omega
                    have d7 : decide (b.seq - p.n = p.seq) = false := decide_eq_false (by omega)
                    have e7 : (b.seq - p.n == p.seq) = false := by simp; omega
                    have d8 : decide (p.seq - p.n = p.seq) = false := decide_eq_false (by omega)
                    have e8 : (p.seq - p.n == p.seq) = false := by simp; omega
                    have d6 : decide (wrap64 (p.seq - p.n) = p.seq) = false := by rw [← h2, HW.out]; exact decide_eq_false (by omega)
                    have e6 : (wrap64 (p.seq - p.n) == p.seq) = false := by rw [← h2, HW.out]; simp; omega
                    rw [if_neg (fun h9 => h3 h9.2.2), if_neg (by omega)] at hr
                    subst hr
                    clear h1 h2 h3
                    go_wp2_with fail
                    go_ret3
                    exact ⟨rfl, HB6.out⟩
                · have d2 : decide (b.seq = p.seq) = false := decide_eq_false h2
                  have e2' : (b.seq == p.seq) = false := by simpa using h2
                  by_cases h4 : b.seq - p.n = p.seq
                  · have d4 : decide (wrap64 (b.seq - p.n) = p.seq) = true := by rw [HW.out]; exact decide_eq_true h4
                    have e4 : (wrap64 (b.seq - p.n) == p.seq) = true := by rw [HW.out]; simpa using h4
                    have d7 : decide (b.seq - p.n = p.seq) = true := decide_eq_true h4
                    have e7 : (b.seq - p.n == p.seq) = true := by simpa using h4
                    rw [if_neg (fun h9 => h2 h9.2.1), if_pos (.inl ⟨h1, h4⟩)] at hr
                    subst hr
                    clear h1 h2 h4
                    go_wp2_with fail
                    go_ret3
                    exact ⟨rfl, HB6.out⟩
                  · have d4 : decide (wrap64 (b.seq - p.n) = p.seq) = false := by rw [HW.out]; exact decide_eq_false h4
                    have e4 : (wrap64 (b.seq - p.n) == p.seq) = false := by rw [HW.out]; simpa using h4
                    have d7 : decide (b.seq - p.n = p.seq) = false := decide_eq_false h4
                    have e7 : (b.seq - p.n == p.seq) = false := by simpa using h4
                    rw [if_neg (fun h9 => h2 h9.2.1), if_neg (by omega)] at hr
                    subst hr
                    clear h1 h2 h4
                    go_wp2_with fail
                    go_ret3
                    exact ⟨rfl, HB6.out⟩
              · have d1' : decide (0 < p.n) = false := decide_eq_false h1
                have d9 : decide (p.n ≤ 0) = true := decide_eq_true (by omega)
                by_cases h5 : b.seq = 0
                · have d5 : decide (b.seq = 0) = true := decide_eq_true h5
                  have e5 : (b.seq == 0) = true := by simpa using h5
                  rw [if_neg (fun h9 => h1 h9.1), if_pos (.inr ⟨by omega, h5⟩)] at hr
                  subst hr
                  clear h1 h5
                  go_wp2_with fail
                  go_ret3
                  exact ⟨rfl, HB6.out⟩
                · have d5 : decide (b.seq = 0) = false := decide_eq_false h5
                  have e5 : (b.seq == 0) = false := by simpa using h5
                  rw [if_neg (fun h9 => h1 h9.1), if_neg (by omega)] at hr
                  subst hr
                  clear h1 h5
                  go_wp2_with fail
                  go_ret3
                  exact ⟨rfl, HB6.out⟩
            · have hpp := HPP.out
              rw [if_neg hgt] at hpp
              subst hpp
              have d3 : decide (p0.epoch < b.epoch) = false := decide_eq_false hgt
              have hpn := hp0n
              have HMID : Hid (LookMid w b (.slice ad b.l.length cap) p0 w.heap.size pb wc) := hid ⟨HB5.out, HK5.out, HP5.out⟩
              clear hgt HPP hp0n HB5 HK5 HP5
              go_upto_region 13 with fail
              clear x1 x2 y1
              have hsq := HOK.out.1.1.2.2
              unfold inNum at hsq
              obtain ⟨hb6, hk6, hp6⟩ := HMID.out
              clear HMID
              have x3 := hk6.cell (i := 3) (v := .int .i64 b.seq) rfl
              have x4 := hk6.cell (i := 4) (v := .slice ad b.l.length cap) rfl
              have y2 := hp6.cell (i := 2) (v := .int .i64 p0.seq) rfl
              have y3 := hp6.cell (i := 3) (v := .int .i64 p0.n) rfl
              have y4 := hp6.cell (i := 4) (v := .int .i64 p0.base) rfl
              have HB6 := hid hb6
              clear hb6 hk6 hp6
              have hw : wrap64 (b.seq - p0.n) = b.seq - p0.n := IntWalk.wrap64_in _ (by omega)
              have HW := hid hw
              have hr := HR3.out
              clear hw HOK
              by_cases h1 : 0 < p0.n
              · have d1' : decide (0 < p0.n) = true := decide_eq_true h1
                have d9 : decide (p0.n ≤ 0) = false := decide_eq_false (by omega)
                by_cases h2 : b.seq = p0.seq
                · have d2 : decide (b.seq = p0.seq) = true := decide_eq_true h2
                  have e2' : (b.seq == p0.seq) = true := by simpa using h2
                  by_cases h3 : (b.l.length : Int) = p0.n
                  · have d3 : decide ((b.l.length : Int) = p0.n) = true := decide_eq_true h3
                    have e3 : ((b.l.length : Int) == p0.n) = true := by simpa using h3
                    rw [if_pos ⟨h1, h2, h3⟩] at hr
                    subst hr
                    clear h1 h2 h3
                    go_wp2_with fail
                    go_ret3
                    exact ⟨rfl, HB6.out⟩
                  · have d3 : decide ((b.l.length : Int) = p0.n) = false := decide_eq_false h3
                    have e3 : ((b.l.length : Int) == p0.n) = false := by simpa using h3
                    have d4 : decide (wrap64 (b.seq - p0.n) = p0.seq) = false := by rw [HW.out]; exact decide_eq_false (by omega)
                    have e4 : (wrap64 (b.seq - p0.n) == p0.seq) = false := by rw [HW.out]; simp; omega
                    have d7 : decide (b.seq - p0.n = p0.seq) = false := decide_eq_false (by omega)
                    have e7 : (b.seq - p0.n == p0.seq) = false := by simp; omega
                    have d8 : decide (p0.seq - p0.n = p0.seq) = false := decide_eq_false (by omega)
                    have e8 : (p0.seq - p0.n == p0.seq) = false := by simp; omega
                    have d6 : decide (wrap64 (p0.seq - p0.n) = p0.seq) = false := by rw [← h2, HW.out]; exact decide_eq_false (by omega)
                    have e6 : (wrap64 (p0.seq - p0.n) == p0.seq) = false := by rw [← h2, HW.out]; simp; omega
                    rw [if_neg (fun h9 => h3 h9.2.2), if_neg (by omega)] at hr
                    subst hr
                    clear h1 h2 h3
                    go_wp2_with fail
                    go_ret3
                    exact ⟨rfl, HB6.out⟩
                · have d2 : decide (b.seq = p0.seq) = false := decide_eq_false h2
                  have e2' : (b.seq == p0.seq) = false := by simpa using h2
                  by_cases h4 : b.seq - p0.n = p0.seq
                  · have d4 : decide (wrap64 (b.seq - p0.n) = p0.seq) = true := by rw [HW.out]; exact decide_eq_true h4
                    have e4 : (wrap64 (b.seq - p0.n) == p0.seq) = true := by rw [HW.out]; simpa using h4
                    have d7 : decide (b.seq - p0.n = p0.seq) = true := decide_eq_true h4
                    have e7 : (b.seq - p0.n == p0.seq) = true := by simpa using h4
                    rw [if_neg (fun h9 => h2 h9.2.1), if_pos (.inl ⟨h1, h4⟩)] at hr
                    subst hr
                    clear h1 h2 h4
                    go_wp2_with fail
                    go_ret3
                    exact ⟨rfl, HB6.out⟩
                  · have d4 : decide (wrap64 (b.seq - p0.n) = p0.seq) = false := by rw [HW.out]; exact decide_eq_false h4
                    have e4 : (wrap64 (b.seq - p0.n) == p0.seq) = false := by rw [HW.out]; simpa using h4
                    have d7 : decide (b.seq - p0.n = p0.seq) = false := decide_eq_false h4
                    have e7 : (b.seq - p0.n == p0.seq) = false := by simpa using h4
                    rw [if_neg (fun h9 => h2 h9.2.1), if_neg (by omega)] at hr
                    subst hr
                    clear h1 h2 h4
                    go_wp2_with fail
                    go_ret3
                    exact ⟨rfl, HB6.out⟩
              · have d1' : decide (0 < p0.n) = false := decide_eq_false h1
                have d9 : decide (p0.n ≤ 0) = true := decide_eq_true (by omega)
                by_cases h5 : b.seq = 0
                · have d5 : decide (b.seq = 0) = true := decide_eq_true h5
                  have e5 : (b.seq == 0) = true := by simpa using h5
                  rw [if_neg (fun h9 => h1 h9.1), if_pos (.inr ⟨by omega, h5⟩)] at hr
                  subst hr
                  clear h1 h5
                  go_wp2_with fail
                  go_ret3
                  exact ⟨rfl, HB6.out⟩
                · have d5 : decide (b.seq = 0) = false := decide_eq_false h5
                  have e5 : (b.seq == 0) = false := by simpa using h5
                  rw [if_neg (fun h9 => h1 h9.1), if_neg (by omega)] at hr
                  subst hr
                  clear h1 h5
                  go_wp2_with fail
                  go_ret3
                  exact ⟨rfl, HB6.out⟩
  · have hcode : b.code = 1 := if_neg hok
    rw [hcode] at HCK
    have hr := HR.out
    rw [if_pos (.inl hok)] at hr
    subst hr
    clear hok hcode
    go_enter Tryz.func38, Tryz.ntmps38
    go_wp2_with fail
    refine (HCK.out _ HB1.out).mono ?_
    rintro e w2 ⟨rfl, hb2⟩
    have HB2 := hid (bel_next HB1.out hb2)
    clear hb2
    go_wp2_with fail
    go_ret3
    exact ⟨rfl, HB2.out⟩
end Go.Proofs.YtgjkjkeeblbjlaaGreatDoor
