/-
  txn: Fold: the walk. Conditions: rows that may be.
-/
import Derived.Test.YtbnefpdjcbegpaaGreatDoorHKM
set_option maxRecDepth 100000
namespace Go.Proofs.YtbnefpdjcbegpaaGreatDoor
open Go.RowKit

theorem set_self {α : Type} {A : List α} {k : Nat} {x : α} (h : A[k]? = some x) : A.set k x = A := by
  apply List.ext_getElem?
  intro j
  rw [List.getElem?_set]
  split
  · rename_i e
    subst e
    have := (List.getElem?_eq_some_iff.1 h).1
    rw [if_pos this, h]
  · rfl

section
variable {l : List PTr} {i : Nat} {t : PTr}

theorem trSetE (h : l[i]? = some t) (e p a : Int) : trCells (l.set i ⟨t.pid, e, t.state, p, a⟩) = (((trCells l).set (i * 5 + 1) (.int .i64 e)).set (i * 5 + 3) (.int .i64 p)).set (i * 5 + 4) (.int .i64 a) := by
  obtain ⟨h0, h1, h2, h3, h4⟩ := trCells_at l i t h
  rw [trCells_set l i _ (List.getElem?_eq_some_iff.1 h).1]
  dsimp only
  rw [set_self h0, set_self (A := (trCells l).set (i * 5 + 1) _) (by rw [List.getElem?_set_ne (by omega)]; exact h2)]

theorem trSetA (h : l[i]? = some t) (s p : Int) : trCells (l.set i ⟨t.pid, t.epoch, s, p, t.last⟩) = ((trCells l).set (i * 5 + 2) (.int .i64 s)).set (i * 5 + 3) (.int .i64 p) := by
  obtain ⟨h0, h1, h2, h3, h4⟩ := trCells_at l i t h
  rw [trCells_set l i _ (List.getElem?_eq_some_iff.1 h).1]
  dsimp only
  rw [set_self h0, set_self h1]
  exact set_self (by rw [List.getElem?_set_ne (by omega), List.getElem?_set_ne (by omega)]; exact h4)

theorem trSetS (h : l[i]? = some t) (s : Int) : trCells (l.set i ⟨t.pid, t.epoch, s, t.parts, t.last⟩) = (trCells l).set (i * 5 + 2) (.int .i64 s) := by
  obtain ⟨h0, h1, h2, h3, h4⟩ := trCells_at l i t h
  rw [trSetA h s t.parts]
  exact set_self (by rw [List.getElem?_set_ne (by omega)]; exact h3)

theorem trSetC (h : l[i]? = some t) (e s p a : Int) : trCells (l.set i ⟨t.pid, e, s, p, a⟩) = ((((trCells l).set (i * 5 + 1) (.int .i64 e)).set (i * 5 + 2) (.int .i64 s)).set (i * 5 + 3) (.int .i64 p)).set (i * 5 + 4) (.int .i64 a) := by
  obtain ⟨h0, h1, h2, h3, h4⟩ := trCells_at l i t h
  rw [trCells_set l i _ (List.getElem?_eq_some_iff.1 h).1]
  dsimp only
  rw [set_self h0]
end

theorem foldT_no {l : List PTr} {n : TNote} (h : ¬ n.ok) : foldT l n = ([], 1) := by unfold foldT; rw [if_pos h]
theorem foldT_none {l : List PTr} {n : TNote} (h : n.ok) (hr : rowOf l n.pid = none) (hk : ¬ n.kind = 1) : foldT l n = ([], 3) := by
  unfold foldT; rw [if_neg (fun h9 => h9 h), hr]; dsimp only; rw [if_neg hk]
theorem foldT_new {l : List PTr} {n : TNote} (h : n.ok) (hr : rowOf l n.pid = none) (hk : n.kind = 1) : foldT l n = (insTr l ⟨n.pid, 1, 1, 0, 0⟩, 0) := by
  unfold foldT; rw [if_neg (fun h9 => h9 h), hr]; dsimp only; rw [if_pos hk]
theorem foldT_bad {l : List PTr} {n : TNote} {t : PTr} (h : n.ok) (hr : rowOf l n.pid = some t) (hu : t.turn n = none) : foldT l n = ([], 9) := by
  unfold foldT; rw [if_neg (fun h9 => h9 h), hr]; dsimp only; rw [hu]
theorem foldT_far {l : List PTr} {n : TNote} {t u : PTr} (h : n.ok) (hr : rowOf l n.pid = some t) (hu : t.turn n = some u) (he : 1099511627776 < u.epoch) : foldT l n = ([], 6) := by
  unfold foldT; rw [if_neg (fun h9 => h9 h), hr]; dsimp only; rw [hu]; dsimp only; rw [if_pos he]
theorem foldT_good {l : List PTr} {n : TNote} {t u : PTr} (h : n.ok) (hr : rowOf l n.pid = some t) (hu : t.turn n = some u) (he : ¬ 1099511627776 < u.epoch) : foldT l n = (setTr l u, 0) := by
  unfold foldT; rw [if_neg (fun h9 => h9 h), hr]; dsimp only; rw [hu]; dsimp only; rw [if_neg he]

/-- What Fold tells. -/
def FoldT (w : World) (r : List PTr × Int) (e : Ending) (w' : World) : Prop :=
  Below w.heap.size w w' ∧ ((r.2 ≠ 0 ∧ e = .returned (.tuple #[.slice none 0 0, .int .i64 r.2])) ∨ (r.2 = 0 ∧ ∃ v', e = .returned (.tuple #[v', .int .i64 0]) ∧ w'.ownsRow w.heap.size 28 5 v' r.1.length (trCells r.1)))

theorem FoldT.no {w w' : World} {r : List PTr × Int} {c : Int} (hb : Below w.heap.size w w') (hr : r = ([], c)) (hc : c ≠ 0) : FoldT w r (.returned (.tuple #[.slice none 0 0, .int .i64 c])) w' := by
  subst hr
  exact ⟨hb, .inl ⟨hc, rfl⟩⟩
theorem FoldT.yes {w w' : World} {r : List PTr × Int} {l1 : List PTr} {v' : Value} (hb : Below w.heap.size w w') (hr : r = (l1, 0)) (ho : w'.ownsRow w.heap.size 28 5 v' l1.length (trCells l1)) : FoldT w r (.returned (.tuple #[v', .int .i64 0])) w' := by
  subst hr
  exact ⟨hb, .inr ⟨rfl, v', rfl, ho⟩⟩

theorem insTr_len (l : List PTr) (t : PTr) : (insTr l t).length = l.length + 1 := by
  induction l with
  | nil => rfl
  | cons y l ih => rw [insTr]; split <;> simp [ih]

theorem setTr_len (l : List PTr) (t : PTr) : (setTr l t).length = l.length := by unfold setTr; simp

theorem bel_drewN9 {B : Nat} {w W : World} (h : Below B w W) : Below B w W.drew := ⟨h.os, h.tape, h.output, h.size, h.block⟩
theorem own_drew9 {w : World} {base : Nat} {e : TypeId} {size : Nat} {v : Value} {n : Nat} {xs : List Value} (h : w.ownsRow base e size v n xs) : w.drew.ownsRow base e size v n xs := h

set_option maxHeartbeats 8000000 in
theorem txFold {w : World} {base : Nat} {v : Value} {l : List PTr} (n : TNote) (hr : TRight l) (h : w.ownsRow base 28 5 v l.length (trCells l)) :
    Calls Tryz.prog 47 #[v, n.val] w (FoldT w (foldT l n)) := by
  have hl8 := hr.len
  obtain ⟨r, hrr⟩ : ∃ r, foldT l n = r := ⟨_, rfl⟩
  rw [hrr]
  have HRR := hid hrr
  have HT := hid hr
  have HROW := hid h
  have HCK := hid (fun W => txCheck n W)
  clear hrr hr h
  have hba : Below w.heap.size w (w.alloc (.cells #[.int .i64 n.kind, .int .i64 n.pid, .int .i64 n.parts] 68)) := bel_alloc (Below.refl w.heap.size w) _
  have HBA := hid hba
  have HBK := hid (Blk.new w #[.int .i64 n.kind, .int .i64 n.pid, .int .i64 n.parts] 68)
  clear hba
  obtain ⟨c, hc⟩ : ∃ c, n.code = c := ⟨_, rfl⟩
  rw [hc] at HCK
  unfold TNote.val at HCK ⊢
  by_cases hok : n.ok
  · have h0 : n.code = 0 := if_pos hok
    rw [h0] at hc
    subst hc
    have HOK := hid hok
    clear hok h0
    go_enter Tryz.func47, Tryz.ntmps47
    go_wp2_with fail
    refine (HCK.out _).mono ?_
    rintro e w1 ⟨rfl, hb1⟩
    have HB1 := hid (bel_next HBA.out hb1)
    have HBK1 := hid (HBK.out.below' hb1)
    clear hb1 HBA HBK HCK
    go_wp2_with fail
    refine (txRight HT.out (Reads.of_own (own_bel HROW.out HB1.out))).mono ?_
    rintro e w2 ⟨rfl, hb2⟩
    have HB2 := hid (bel_next HB1.out hb2)
    have HBK2 := hid (HBK1.out.below' hb2)
    clear hb2 HB1 HBK1
    go_wp2_with fail
    refine (cloneTr_any (own_bel HROW.out HB2.out) (tr_one l) (by omega)).mono ?_
    rintro e w3 ⟨v3, rfl, hrow3, hb3⟩
    have hsz2 := HB2.out.size
    have hk2 := HBK2.out.lt
    have HB3 := hid (bel_next HB2.out hb3)
    have HBK3 := hid (HBK2.out.below' hb3)
    have hne3 : v3.ownBlock ≠ some w.heap.size := fun e => by have := (hrow3.lt _ e).1; omega
    have HNE3 := hid hne3
    have HROW3 := hid (own_base hrow3 (show w.heap.size ≤ w2.heap.size by omega))
    have n0 := HBK3.out.cell (i := 0) (v := .int .i64 n.kind) rfl
    have n1 := HBK3.out.cell (i := 1) (v := .int .i64 n.pid) rfl
    have n2 := HBK3.out.cell (i := 2) (v := .int .i64 n.parts) rfl
    clear hb3 hrow3 HB2 HBK2 hne3
    go_wp2_with fail
    refine (txFind n.pid HT.out HOK.out.1 (Reads.of_own HROW3.out)).mono ?_
    rintro e w4 ⟨i, hst, rfl, hb4⟩
    have hsz3 := HB3.out.size
    have HB4 := hid (bel_next HB3.out hb4)
    have HBK4 := hid (HBK3.out.below' hb4)
    have HROW4 := hid (own_bel HROW3.out hb4)
    have HST := hid hst
    clear n0 n1 n2
    have n0 := HBK4.out.cell (i := 0) (v := .int .i64 n.kind) rfl
    have n1 := HBK4.out.cell (i := 1) (v := .int .i64 n.pid) rfl
    have n2 := HBK4.out.cell (i := 2) (v := .int .i64 n.parts) rfl
    have hnl := HBK4.out.lt
    clear hb4 HB3 HBK3 HROW3 hst
    cases hro : rowOf l n.pid with
    | none =>
      have HRO := hid hro
      clear hro
      by_cases hk : n.kind = 1
      · have hf := HRR.out.symm.trans (foldT_new HOK.out HRO.out hk)
        have HF := hid hf
        rw [hk] at n0
        have HK := hid hk
        clear hf hk
        go_wp2_with fail
        refine (txInsert (t := ⟨n.pid, 1, 1, 0, 0⟩) (own_bel HROW4.out (bel_alloc (Below.refl _ _) _)) (by simp; omega) HST.out.le hl8 (Blk.new w4 _ _) (fun e => by have := (HROW4.out.lt _ e).2; omega)).mono ?_
        rintro e w5 ⟨v5, rfl, hrow5, hb5⟩
        have hr5 : w5.ownsRow w.heap.size 28 5 v5 (insTr l ⟨n.pid, 1, 1, 0, 0⟩).length (trCells (insTr l ⟨n.pid, 1, 1, 0, 0⟩)) := by
          rw [insTr_len, insTr_at HST.out.le HST.out.pre HST.out.post]
          exact hrow5
        have HR5 := hid hr5
        have HB5 : Hid (Below w.heap.size w w5) := hid ((bel_alloc HB4.out _).trans hb5)
        clear hr5 hrow5 hb5
        go_wp2_with fail
        go_ret2
        exact FoldT.yes HB5.out HF.out HR5.out
      · have hf := HRR.out.symm.trans (foldT_none HOK.out HRO.out hk)
        have HF := hid hf
        have hd : decide (n.kind = 1) = false := decide_eq_false hk
        have hb9 : (n.kind == 1) = false := by simpa using hk
        have hb8 : (n.kind != 1) = true := by simpa using hk
        clear hf
        go_wp2_with fail
        go_ret2
        exact FoldT.no HB4.out HF.out (by decide)
    | some t =>
      have HRO := hid hro
      have hti := HST.out.is HT.out hro
      have HTI := hid hti
      clear hro hti
      obtain ⟨g, cap, rfl⟩ : ∃ g cap, v3 = .slice (some ⟨g, 0, none⟩) l.length cap := by
        rcases Joins.ownsRow_forms HROW4.out with ⟨_, hz⟩ | ⟨g, cap, e⟩
        · have := (List.getElem?_eq_some_iff.1 HTI.out).1; omega
        · exact ⟨g, cap, e⟩
      have hil := (List.getElem?_eq_some_iff.1 HTI.out).1
      have hi1 : (i : Int) < (l.length : Int) := by omega
      have hi0 : (0 : Int) ≤ (i : Int) := by omega
      have hg4 := (HROW4.out.lt g rfl)
      obtain ⟨hg0, hg1⟩ := hg4
      have htp : n.pid = t.pid := (rowOf_mem HRO.out).2.symm
      have HTP := hid htp
      obtain ⟨e0, e1, e2, e3, e4⟩ := trCells_at l i t HTI.out
      have c0 := (HROW4.out.cellAt (i * 5) (by omega)).trans e0
      have c1 := (HROW4.out.cellAt (i * 5 + 1) (by omega)).trans e1
      have c2 := (HROW4.out.cellAt (i * 5 + 2) (by omega)).trans e2
      have c3 := (HROW4.out.cellAt (i * 5 + 3) (by omega)).trans e3
      have c4 := (HROW4.out.cellAt (i * 5 + 4) (by omega)).trans e4
      have f1 := row_free HROW4.out (i * 5 + 1)
      have f2 := row_free HROW4.out (i * 5 + 2)
      have f3 := row_free HROW4.out (i * 5 + 3)
      have f4 := row_free HROW4.out (i * 5 + 4)
      have hgn : g ≠ w.heap.size := fun e => HNE3.out (by rw [e]; rfl)
      have hta := HT.out.all t (List.mem_of_getElem? HTI.out)
      have hte1 : 1 ≤ t.epoch := hta.2.1
      have hte2 : t.epoch ≤ 1099511627776 := hta.2.2
      have hkk := HOK.out.2.1
      have hkind : n.kind = 1 ∨ n.kind = 2 ∨ n.kind = 3 ∨ n.kind = 4 ∨ n.kind = 5 := by omega
      have FR : Hid (∀ W, Fr (fun k => k = g) w4 W → Below w.heap.size w W) := hid (fun W hf => by
        have hsz4 := HB4.out.size
        exact HB4.out.trans (hf.to_below (B := w.heap.size) (by omega) (fun k hk e => by omega)))
      obtain ⟨kind, pid, parts⟩ := n
      obtain ⟨tp, te, ts, tparts, tl⟩ := t
      dsimp only at n0 n1 n2 c0 c1 c2 c3 c4 hte1 hte2 hkk hkind
      clear htp e0 e1 e2 e3 e4 hta
      rcases hkind with rfl | rfl | rfl | rfl | rfl
      · by_cases hs : ts = 1
        · subst hs
          have hu : (PTr.mk tp te 1 tparts tl).turn ⟨1, pid, parts⟩ = some ⟨tp, te + 1, 1, 0, 0⟩ := by unfold PTr.turn; simp
          by_cases hmx : te = 1099511627776
          · have hf := HRR.out.symm.trans (foldT_far HOK.out HRO.out hu (by first | omega | (dsimp only; omega)))
            have HF := hid hf
            have HB := hid (FR.out _ ((((Fr.refl (fun k => k = g) w4).setCell (p := ⟨g, i * 5 + 1, none⟩) (.inl rfl) (.int .i64 (1099511627777))).setCell (p := ⟨g, i * 5 + 3, none⟩) (.inl rfl) (.int .i64 0)).setCell (p := ⟨g, i * 5 + 4, none⟩) (.inl rfl) (.int .i64 0)))
            clear hf hu
            subst hmx
            go_wp2_with fail
            go_ret2
            exact FoldT.no HB.out HF.out (by decide)
          · have hd9 : decide ((1099511627776 : Int) < te + 1) = false := decide_eq_false (by omega)
            have hf := HRR.out.symm.trans (foldT_good HOK.out HRO.out hu (by first | omega | (dsimp only; omega)))
            have HF := hid hf
            have hrow : (((w4.setCell ⟨g, i * 5 + 1, none⟩ (.int .i64 (te + 1))).setCell ⟨g, i * 5 + 3, none⟩ (.int .i64 0)).setCell ⟨g, i * 5 + 4, none⟩ (.int .i64 0)).ownsRow w.heap.size 28 5 (.slice (some ⟨g, 0, none⟩) l.length cap) (setTr l ⟨tp, te + 1, 1, 0, 0⟩).length (trCells (setTr l ⟨tp, te + 1, 1, 0, 0⟩)) := by
              rw [setTr_len, setTr_at HT.out HTI.out (by rfl), trSetE HTI.out]
              exact own_set (own_set (own_set (HROW4.out) (i * 5 + 1) (.int .i64 (te + 1))) (i * 5 + 3) (.int .i64 0)) (i * 5 + 4) (.int .i64 0)
            have HR := hid hrow
            have HB := hid (FR.out _ ((((Fr.refl (fun k => k = g) w4).setCell (p := ⟨g, i * 5 + 1, none⟩) (.inl rfl) (.int .i64 (te + 1))).setCell (p := ⟨g, i * 5 + 3, none⟩) (.inl rfl) (.int .i64 0)).setCell (p := ⟨g, i * 5 + 4, none⟩) (.inl rfl) (.int .i64 0)))
            clear hf hu hrow
            go_wp2_with fail
            go_ret2
            exact FoldT.yes HB.out HF.out HR.out
        · have hd : decide (ts = 1) = false := decide_eq_false hs
          have hb9 : (ts != 1) = true := by simpa using hs
          have hu : (PTr.mk tp te ts tparts tl).turn ⟨1, pid, parts⟩ = none := by unfold PTr.turn; simp [hs]
          have hf := HRR.out.symm.trans (foldT_bad HOK.out HRO.out hu)
          have HF := hid hf
          clear hf hu
          go_wp2_with fail
          go_ret2
          exact FoldT.no HB4.out HF.out (by decide)
      · by_cases hs : ts = 1
        · subst hs
          have hu : (PTr.mk tp te 1 tparts tl).turn ⟨2, pid, parts⟩ = some ⟨tp, te, 2, orI tparts parts, tl⟩ := by unfold PTr.turn; simp
          have hd9 : decide ((1099511627776 : Int) < te) = false := decide_eq_false (by omega)
          have hf := HRR.out.symm.trans (foldT_good HOK.out HRO.out hu (by first | omega | (dsimp only; omega)))
          have HF := hid hf
          have hrow : ((w4.setCell ⟨g, i * 5 + 2, none⟩ (.int .i64 2)).setCell ⟨g, i * 5 + 3, none⟩ (.int .i64 (orI tparts parts))).ownsRow w.heap.size 28 5 (.slice (some ⟨g, 0, none⟩) l.length cap) (setTr l ⟨tp, te, 2, orI tparts parts, tl⟩).length (trCells (setTr l ⟨tp, te, 2, orI tparts parts, tl⟩)) := by
            rw [setTr_len, setTr_at HT.out HTI.out (by rfl), trSetA HTI.out]
            exact own_set (own_set (HROW4.out) (i * 5 + 2) (.int .i64 2)) (i * 5 + 3) (.int .i64 (orI tparts parts))
          have HR := hid hrow
          have HB := hid (FR.out _ (((Fr.refl (fun k => k = g) w4).setCell (p := ⟨g, i * 5 + 2, none⟩) (.inl rfl) (.int .i64 2)).setCell (p := ⟨g, i * 5 + 3, none⟩) (.inl rfl) (.int .i64 (orI tparts parts))))
          clear hf hu hrow
          go_wp2_with fail
          go_region
          all_goals go_wp2_with fail
          go_ret2
          exact FoldT.yes (bel_drewN9 HB.out) HF.out (own_drew9 HR.out)
        · by_cases hs2 : ts = 2
          · subst hs2
            have hu : (PTr.mk tp te 2 tparts tl).turn ⟨2, pid, parts⟩ = some ⟨tp, te, 2, orI tparts parts, tl⟩ := by unfold PTr.turn; simp
            have hd9 : decide ((1099511627776 : Int) < te) = false := decide_eq_false (by omega)
            have hf := HRR.out.symm.trans (foldT_good HOK.out HRO.out hu (by first | omega | (dsimp only; omega)))
            have HF := hid hf
            have hrow : ((w4.setCell ⟨g, i * 5 + 2, none⟩ (.int .i64 2)).setCell ⟨g, i * 5 + 3, none⟩ (.int .i64 (orI tparts parts))).ownsRow w.heap.size 28 5 (.slice (some ⟨g, 0, none⟩) l.length cap) (setTr l ⟨tp, te, 2, orI tparts parts, tl⟩).length (trCells (setTr l ⟨tp, te, 2, orI tparts parts, tl⟩)) := by
              rw [setTr_len, setTr_at HT.out HTI.out (by rfl), trSetA HTI.out]
              exact own_set (own_set (HROW4.out) (i * 5 + 2) (.int .i64 2)) (i * 5 + 3) (.int .i64 (orI tparts parts))
            have HR := hid hrow
            have HB := hid (FR.out _ (((Fr.refl (fun k => k = g) w4).setCell (p := ⟨g, i * 5 + 2, none⟩) (.inl rfl) (.int .i64 2)).setCell (p := ⟨g, i * 5 + 3, none⟩) (.inl rfl) (.int .i64 (orI tparts parts))))
            clear hf hu hrow
            go_wp2_with fail
            go_region
            all_goals go_wp2_with fail
            go_ret2
            exact FoldT.yes (bel_drewN9 HB.out) HF.out (own_drew9 HR.out)
          · have hd : decide (ts = 1) = false := decide_eq_false hs
            have hb9 : (ts != 1) = true := by simpa using hs
            have hd2 : decide (ts = 2) = false := decide_eq_false hs2
            have hb8 : (ts != 2) = true := by simpa using hs2
            have hu : (PTr.mk tp te ts tparts tl).turn ⟨2, pid, parts⟩ = none := by unfold PTr.turn; simp [hs, hs2]
            have hf := HRR.out.symm.trans (foldT_bad HOK.out HRO.out hu)
            have HF := hid hf
            clear hf hu
            go_wp2_with fail
            go_ret2
            exact FoldT.no HB4.out HF.out (by decide)
      · by_cases hs : ts = 2
        · subst hs
          have hu : (PTr.mk tp te 2 tparts tl).turn ⟨3, pid, parts⟩ = some ⟨tp, te, 3, tparts, tl⟩ := by unfold PTr.turn; simp
          have hd9 : decide ((1099511627776 : Int) < te) = false := decide_eq_false (by omega)
          have hf := HRR.out.symm.trans (foldT_good HOK.out HRO.out hu (by first | omega | (dsimp only; omega)))
          have HF := hid hf
          have hrow : (w4.setCell ⟨g, i * 5 + 2, none⟩ (.int .i64 3)).ownsRow w.heap.size 28 5 (.slice (some ⟨g, 0, none⟩) l.length cap) (setTr l ⟨tp, te, 3, tparts, tl⟩).length (trCells (setTr l ⟨tp, te, 3, tparts, tl⟩)) := by
            rw [setTr_len, setTr_at HT.out HTI.out (by rfl), trSetS HTI.out]
            exact own_set (HROW4.out) (i * 5 + 2) (.int .i64 3)
          have HR := hid hrow
          have HB := hid (FR.out _ ((Fr.refl (fun k => k = g) w4).setCell (p := ⟨g, i * 5 + 2, none⟩) (.inl rfl) (.int .i64 3)))
          clear hf hu hrow
          go_wp2_with fail
          go_ret2
          exact FoldT.yes HB.out HF.out HR.out
        · have hd : decide (ts = 2) = false := decide_eq_false hs
          have hb9 : (ts != 2) = true := by simpa using hs
          have hu : (PTr.mk tp te ts tparts tl).turn ⟨3, pid, parts⟩ = none := by unfold PTr.turn; simp [hs]
          have hf := HRR.out.symm.trans (foldT_bad HOK.out HRO.out hu)
          have HF := hid hf
          clear hf hu
          go_wp2_with fail
          go_ret2
          exact FoldT.no HB4.out HF.out (by decide)
      · by_cases hs : ts = 2
        · subst hs
          have hu : (PTr.mk tp te 2 tparts tl).turn ⟨4, pid, parts⟩ = some ⟨tp, te, 4, tparts, tl⟩ := by unfold PTr.turn; simp
          have hd9 : decide ((1099511627776 : Int) < te) = false := decide_eq_false (by omega)
          have hf := HRR.out.symm.trans (foldT_good HOK.out HRO.out hu (by first | omega | (dsimp only; omega)))
          have HF := hid hf
          have hrow : (w4.setCell ⟨g, i * 5 + 2, none⟩ (.int .i64 4)).ownsRow w.heap.size 28 5 (.slice (some ⟨g, 0, none⟩) l.length cap) (setTr l ⟨tp, te, 4, tparts, tl⟩).length (trCells (setTr l ⟨tp, te, 4, tparts, tl⟩)) := by
            rw [setTr_len, setTr_at HT.out HTI.out (by rfl), trSetS HTI.out]
            exact own_set (HROW4.out) (i * 5 + 2) (.int .i64 4)
          have HR := hid hrow
          have HB := hid (FR.out _ ((Fr.refl (fun k => k = g) w4).setCell (p := ⟨g, i * 5 + 2, none⟩) (.inl rfl) (.int .i64 4)))
          clear hf hu hrow
          go_wp2_with fail
          go_ret2
          exact FoldT.yes HB.out HF.out HR.out
        · have hd : decide (ts = 2) = false := decide_eq_false hs
          have hb9 : (ts != 2) = true := by simpa using hs
          have hu : (PTr.mk tp te ts tparts tl).turn ⟨4, pid, parts⟩ = none := by unfold PTr.turn; simp [hs]
          have hf := HRR.out.symm.trans (foldT_bad HOK.out HRO.out hu)
          have HF := hid hf
          clear hf hu
          go_wp2_with fail
          go_ret2
          exact FoldT.no HB4.out HF.out (by decide)
      · by_cases hs : ts = 3
        · subst hs
          have hu : (PTr.mk tp te 3 tparts tl).turn ⟨5, pid, parts⟩ = some ⟨tp, te + 1, 1, 0, 3⟩ := by unfold PTr.turn; simp
          by_cases hmx : te = 1099511627776
          · have hf := HRR.out.symm.trans (foldT_far HOK.out HRO.out hu (by first | omega | (dsimp only; omega)))
            have HF := hid hf
            have HB := hid (FR.out _ (((((Fr.refl (fun k => k = g) w4).setCell (p := ⟨g, i * 5 + 1, none⟩) (.inl rfl) (.int .i64 (1099511627777))).setCell (p := ⟨g, i * 5 + 2, none⟩) (.inl rfl) (.int .i64 1)).setCell (p := ⟨g, i * 5 + 3, none⟩) (.inl rfl) (.int .i64 0)).setCell (p := ⟨g, i * 5 + 4, none⟩) (.inl rfl) (.int .i64 3)))
            clear hf hu
            subst hmx
            go_wp2_with fail
            go_ret2
            exact FoldT.no HB.out HF.out (by decide)
          · have hd9 : decide ((1099511627776 : Int) < te + 1) = false := decide_eq_false (by omega)
            have hf := HRR.out.symm.trans (foldT_good HOK.out HRO.out hu (by first | omega | (dsimp only; omega)))
            have HF := hid hf
            have hrow : ((((w4.setCell ⟨g, i * 5 + 1, none⟩ (.int .i64 (te + 1))).setCell ⟨g, i * 5 + 2, none⟩ (.int .i64 1)).setCell ⟨g, i * 5 + 3, none⟩ (.int .i64 0)).setCell ⟨g, i * 5 + 4, none⟩ (.int .i64 3)).ownsRow w.heap.size 28 5 (.slice (some ⟨g, 0, none⟩) l.length cap) (setTr l ⟨tp, te + 1, 1, 0, 3⟩).length (trCells (setTr l ⟨tp, te + 1, 1, 0, 3⟩)) := by
              rw [setTr_len, setTr_at HT.out HTI.out (by rfl), trSetC HTI.out]
              exact own_set (own_set (own_set (own_set (HROW4.out) (i * 5 + 1) (.int .i64 (te + 1))) (i * 5 + 2) (.int .i64 1)) (i * 5 + 3) (.int .i64 0)) (i * 5 + 4) (.int .i64 3)
            have HR := hid hrow
            have HB := hid (FR.out _ (((((Fr.refl (fun k => k = g) w4).setCell (p := ⟨g, i * 5 + 1, none⟩) (.inl rfl) (.int .i64 (te + 1))).setCell (p := ⟨g, i * 5 + 2, none⟩) (.inl rfl) (.int .i64 1)).setCell (p := ⟨g, i * 5 + 3, none⟩) (.inl rfl) (.int .i64 0)).setCell (p := ⟨g, i * 5 + 4, none⟩) (.inl rfl) (.int .i64 3)))
            clear hf hu hrow
            go_wp2_with fail
            go_ret2
            exact FoldT.yes HB.out HF.out HR.out
        · by_cases hs2 : ts = 4
          · subst hs2
            have hu : (PTr.mk tp te 4 tparts tl).turn ⟨5, pid, parts⟩ = some ⟨tp, te + 1, 1, 0, 4⟩ := by unfold PTr.turn; simp
            by_cases hmx : te = 1099511627776
            · have hf := HRR.out.symm.trans (foldT_far HOK.out HRO.out hu (by first | omega | (dsimp only; omega)))
              have HF := hid hf
              have HB := hid (FR.out _ (((((Fr.refl (fun k => k = g) w4).setCell (p := ⟨g, i * 5 + 1, none⟩) (.inl rfl) (.int .i64 (1099511627777))).setCell (p := ⟨g, i * 5 + 2, none⟩) (.inl rfl) (.int .i64 1)).setCell (p := ⟨g, i * 5 + 3, none⟩) (.inl rfl) (.int .i64 0)).setCell (p := ⟨g, i * 5 + 4, none⟩) (.inl rfl) (.int .i64 4)))
              clear hf hu
              subst hmx
              go_wp2_with fail
              go_ret2
              exact FoldT.no HB.out HF.out (by decide)
            · have hd9 : decide ((1099511627776 : Int) < te + 1) = false := decide_eq_false (by omega)
              have hf := HRR.out.symm.trans (foldT_good HOK.out HRO.out hu (by first | omega | (dsimp only; omega)))
              have HF := hid hf
              have hrow : ((((w4.setCell ⟨g, i * 5 + 1, none⟩ (.int .i64 (te + 1))).setCell ⟨g, i * 5 + 2, none⟩ (.int .i64 1)).setCell ⟨g, i * 5 + 3, none⟩ (.int .i64 0)).setCell ⟨g, i * 5 + 4, none⟩ (.int .i64 4)).ownsRow w.heap.size 28 5 (.slice (some ⟨g, 0, none⟩) l.length cap) (setTr l ⟨tp, te + 1, 1, 0, 4⟩).length (trCells (setTr l ⟨tp, te + 1, 1, 0, 4⟩)) := by
                rw [setTr_len, setTr_at HT.out HTI.out (by rfl), trSetC HTI.out]
                exact own_set (own_set (own_set (own_set (HROW4.out) (i * 5 + 1) (.int .i64 (te + 1))) (i * 5 + 2) (.int .i64 1)) (i * 5 + 3) (.int .i64 0)) (i * 5 + 4) (.int .i64 4)
              have HR := hid hrow
              have HB := hid (FR.out _ (((((Fr.refl (fun k => k = g) w4).setCell (p := ⟨g, i * 5 + 1, none⟩) (.inl rfl) (.int .i64 (te + 1))).setCell (p := ⟨g, i * 5 + 2, none⟩) (.inl rfl) (.int .i64 1)).setCell (p := ⟨g, i * 5 + 3, none⟩) (.inl rfl) (.int .i64 0)).setCell (p := ⟨g, i * 5 + 4, none⟩) (.inl rfl) (.int .i64 4)))
              clear hf hu hrow
              go_wp2_with fail
              go_ret2
              exact FoldT.yes HB.out HF.out HR.out
          · have hd : decide (ts = 3) = false := decide_eq_false hs
            have hb9 : (ts != 3) = true := by simpa using hs
            have hd2 : decide (ts = 4) = false := decide_eq_false hs2
            have hb8 : (ts != 4) = true := by simpa using hs2
            have hu : (PTr.mk tp te ts tparts tl).turn ⟨5, pid, parts⟩ = none := by unfold PTr.turn; simp [hs, hs2]
            have hf := HRR.out.symm.trans (foldT_bad HOK.out HRO.out hu)
            have HF := hid hf
            clear hf hu
            go_wp2_with fail
            go_ret2
            exact FoldT.no HB4.out HF.out (by decide)
  · have h0 : n.code = 1 := if_neg hok
    rw [h0] at hc
    subst hc
    have hf := HRR.out.symm.trans (foldT_no hok)
    have HF := hid hf
    clear hf h0 hok
    go_enter Tryz.func47, Tryz.ntmps47
    go_wp2_with fail
    refine (HCK.out _).mono ?_
    rintro e w1 ⟨rfl, hb1⟩
    have HB1 := hid (bel_next HBA.out hb1)
    clear hb1 HBA HBK HCK
    go_wp2_with fail
    go_ret2
    exact FoldT.no HB1.out HF.out (by decide)
end Go.Proofs.YtbnefpdjcbegpaaGreatDoor
