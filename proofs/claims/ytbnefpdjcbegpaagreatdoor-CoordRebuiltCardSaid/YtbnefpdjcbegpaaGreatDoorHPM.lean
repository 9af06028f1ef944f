/-
  coord: Init, Complete: the walks. Conditions: a coordinator whose log is well, or tells that it is not.
  coord: Add: the walk. Conditions: a coordinator whose log is well, or tells that it is not; a time that fits.
  coord: End, Rows: the walks. Conditions: a coordinator whose log is well, or tells that it is not.
-/
import Derived.Test.YtbnefpdjcbegpaaGreatDoorHOM
set_option maxRecDepth 100000
namespace Go.Proofs.YtbnefpdjcbegpaaGreatDoor
open Go.RowKit

theorem coWrite_right {s : List PTr} {L : PLog} {D : PDisk} {n : TNote} (h : TRight s) : TRight (coWrite s L D n).1 := by
  unfold coWrite
  by_cases hc : (foldT s n).2 = 0
  · rw [if_neg (fun h9 => h9 hc)]
    have hf : foldT s n = ((foldT s n).1, 0) := by rw [← hc]
    unfold noteTo
    dsimp only
    split
    · exact h
    · split
      · exact h
      · exact (foldT_ok h hf).right
  · rw [if_pos hc]; exact h

theorem coReady_zero {L : PLog} {pid : Int} (h : coReady L pid = 0) : (1 ≤ pid ∧ pid ≤ 8) ∧ L.e = 0 := by
  unfold coReady at h
  split at h
  · cases h
  · rename_i h1
    exact ⟨by omega, h⟩

/-- What a call on a coordinator comes to. -/
def CallPost (c l : Nat) (w : World) (d : Nat) (S SL SD : Nat → Prop) (r : CRes) (v : Value) (e : Ending) (w' : World) : Prop :=
  e = .returned v ∧ TrioTo (coThing c l) w w' l d S SL SD r.C r.L r.D

section
variable {w : World} {c l d : Nat} {S SL SD : Nat → Prop} {C : PCo} {A : ALog} {D : PDisk} {N : Int}

theorem CoAt.rep {w : World} {c l : Nat} {S : Nat → Prop} {C : PCo} (h : (coThing c l).held w S C) : ∃ rv, CoRep w c l rv C := by
  obtain ⟨rv, h1, _⟩ := h
  exact ⟨rv, h1⟩

set_option maxHeartbeats 4000000 in
theorem coInit_any (pid : Int) (h : Trio (coThing c l) w l d S SL SD C A.toP D) (hr : TRight C.rows) (hg : A.e = 0 → NGood coNotes N C.rows A D) :
    Calls Tryz.prog 27 #[.pointer (some ⟨c, 0, none⟩), .int .i64 pid] w (CallPost c l w d S SL SD (C.init A.toP D pid) (.tuple #[.int .i64 (C.init A.toP D pid).n, .int .i64 (C.init A.toP D pid).e])) := by
  obtain ⟨rr, hrr⟩ : ∃ rr, C.init A.toP D pid = rr := ⟨_, rfl⟩
  rw [hrr]
  unfold PCo.init at hrr
  have HRR := hid hrr
  have HT := hid h
  have HTR := hid hr
  have hl8 := hr.len
  have HRD := hid (coReady_any pid h)
  obtain ⟨z, hz⟩ : ∃ z, coReady A.toP pid = z := ⟨_, rfl⟩
  rw [hz] at HRD HRR
  have hgood : z = 0 → NGood coNotes N C.rows A D ∧ 1 ≤ pid ∧ pid ≤ 8 := fun h9 => by
    obtain ⟨h1, h2⟩ := coReady_zero (hz.trans h9)
    exact ⟨hg h2, h1⟩
  have HG := hid hgood
  clear hrr hz hgood hg hr
  by_cases hz0 : z = 0
  · subst hz0
    have hr1 := HRR.out.symm.trans (if_neg (fun h9 => h9 rfl))
    obtain ⟨hng, hp1, hp2⟩ := HG.out rfl
    have HNG := hid hng
    clear HG hng
    obtain ⟨rv, hrep⟩ := CoAt.rep h.obj
    obtain ⟨c0, c1⟩ := hrep.c0
    have HREP := hid hrep
    clear hrep h
    obtain ⟨x, hx⟩ : ∃ x, rowZ C.rows pid = x := ⟨_, rfl⟩
    obtain ⟨cc, hcc⟩ : ∃ cc, rowC C.rows pid = cc := ⟨_, rfl⟩
    rw [hx, hcc] at hr1
    have HR1 := hid hr1
    have HX := hid hx
    have HCC := hid hcc
    clear hr1 hx hcc HRR
    go_enter Tryz.func27, Tryz.ntmps27
    go_wp2_with fail
    refine HRD.out.mono ?_
    rintro e w' ⟨rfl, rfl⟩
    go_wp2_with fail
    refine (txRow pid (Reads.of_own HREP.out.rows) (by omega)).mono ?_
    rintro e w1 ⟨rfl, hb1⟩
    rw [HX.out, HCC.out]
    unfold PTr.val
    have HB1 := hid (bel_alloc hb1 (.cells #[.int .i64 x.pid, .int .i64 x.epoch, .int .i64 x.state, .int .i64 x.parts, .int .i64 x.last] 28))
    clear hb1
    by_cases hw : cc = 0 ∧ x.state ≠ 1
    · have HR2 := hid (HR1.out.trans (if_pos hw))
      obtain ⟨rfl, hs⟩ := hw
      have hd : decide (x.state = 1) = false := decide_eq_false hs
      have hb9 : (x.state != 1) = true := by simpa using hs
      have HTT := hid (TrioTo.of_below HT.out HB1.out)
      clear HR1 HRD
      go_wp2_with fail
      go_ret2
      have h9 := HR2.out
      subst h9
      exact ⟨rfl, HTT.out⟩
    · have hr2 := HR1.out.trans (if_neg hw)
      obtain ⟨q, hq⟩ : ∃ q, coWrite C.rows A.toP D ⟨1, pid, 0⟩ = q := ⟨_, rfl⟩
      have hrt := coWrite_right (L := A.toP) (D := D) (n := ⟨1, pid, 0⟩) HTR.out
      rw [hq] at hr2 hrt
      have HR2 := hid hr2
      have HRT := hid hrt
      have hq8 := hrt.len
      have HT1 := hid (HT.out.below HB1.out)
      have HWR : Hid (∀ W, Trio (coThing c l) W l d S SL SD C A.toP D → Calls Tryz.prog 36 #[.pointer (some ⟨c, 0, none⟩), .agg #[.int .i64 1, .int .i64 pid, .int .i64 0]] W (CoPost c l W d S SL SD { C with rows := q.1 } q.2.1 q.2.2.1 (.returned (.int .i64 q.2.2.2)))) := hid (fun W hW => by
        have h9 := coWrite_any ⟨1, pid, 0⟩ hW HNG.out
        rw [hq] at h9
        exact h9)
      clear hr2 hrt hq HR1 HRD
      have hway : (∃ hc0 : cc = 0, x.state = 1) ∨ ¬ cc = 0 := by
        by_cases h9 : cc = 0
        · exact .inl ⟨h9, Classical.byContradiction fun h8 => hw ⟨h9, h8⟩⟩
        · exact .inr h9
      clear hw
      have hrest : ∀ (W9 : World), True := fun _ => trivial
      clear hrest
      rcases hway with ⟨rfl, hs⟩ | hcn
      · have HS := hid hs
        have hd : decide (x.state = 1) = true := decide_eq_true hs
        have hb9 : (x.state != 1) = false := by simpa using hs
        clear hs
        go_wp2_with fail
        refine (HWR.out _ HT1.out).mono ?_
        rintro e w2 ⟨rfl, hto⟩
        have HTO := hid (TrioTo.after HB1.out hto)
        obtain ⟨S2, SL2, SD2, ha2, _⟩ := hto.split
        obtain ⟨rv2, hrep2⟩ := CoAt.rep ha2.1.obj
        have y2 := hrep2.c0.2
        have HREP2 := hid hrep2
        clear hto ha2 hrep2
        obtain ⟨q4, hq4⟩ : ∃ q4, q.2.2.2 = q4 := ⟨_, rfl⟩
        have hr3 := HR2.out
        rw [hq4] at hr3 ⊢
        by_cases hq0 : q4 = 0
        · have HR3 := hid (hr3.trans (if_neg (fun h9 => h9 hq0)))
          subst hq0
          obtain ⟨y, hy⟩ : ∃ y, rowZ q.1 pid = y := ⟨_, rfl⟩
          have HY := hid hy
          clear hr3 hy hq4
          go_wp2_with fail
          refine (txRow pid (Reads.of_own HREP2.out.rows) (by show q.1.length ≤ _; omega)).mono ?_
          rintro e w3 ⟨rfl, hb3⟩
          dsimp only
          rw [HY.out]
          unfold PTr.val
          have HT3 := hid (HTO.out.then_below (bel_alloc hb3 (.cells #[.int .i64 y.pid, .int .i64 y.epoch, .int .i64 y.state, .int .i64 y.parts, .int .i64 y.last] 28)))
          clear hb3 HTO
          go_wp2_with fail
          go_ret2
          have h9 := HR3.out
          rw [HY.out] at h9
          subst h9
          exact ⟨rfl, HT3.out⟩
        · have HR3 := hid (hr3.trans (if_pos hq0))
          have hz1 : (q4 != 0) = true := by simpa using hq0
          have hz2 : decide (q4 = 0) = false := decide_eq_false hq0
          clear hr3 hq4
          go_wp2_with fail
          go_ret2
          have h9 := HR3.out
          subst h9
          exact ⟨rfl, HTO.out⟩
      · have hd : decide (cc = 0) = false := decide_eq_false hcn
        have hb9 : (cc == 0) = false := by simpa using hcn
        go_wp2_with fail
        refine (HWR.out _ HT1.out).mono ?_
        rintro e w2 ⟨rfl, hto⟩
        have HTO := hid (TrioTo.after HB1.out hto)
        obtain ⟨S2, SL2, SD2, ha2, _⟩ := hto.split
        obtain ⟨rv2, hrep2⟩ := CoAt.rep ha2.1.obj
        have y2 := hrep2.c0.2
        have HREP2 := hid hrep2
        clear hto ha2 hrep2
        obtain ⟨q4, hq4⟩ : ∃ q4, q.2.2.2 = q4 := ⟨_, rfl⟩
        have hr3 := HR2.out
        rw [hq4] at hr3 ⊢
        by_cases hq0 : q4 = 0
        · have HR3 := hid (hr3.trans (if_neg (fun h9 => h9 hq0)))
          subst hq0
          obtain ⟨y, hy⟩ : ∃ y, rowZ q.1 pid = y := ⟨_, rfl⟩
          have HY := hid hy
          clear hr3 hy hq4
          go_wp2_with fail
          refine (txRow pid (Reads.of_own HREP2.out.rows) (by show q.1.length ≤ _; omega)).mono ?_
          rintro e w3 ⟨rfl, hb3⟩
          dsimp only
          rw [HY.out]
          unfold PTr.val
          have HT3 := hid (HTO.out.then_below (bel_alloc hb3 (.cells #[.int .i64 y.pid, .int .i64 y.epoch, .int .i64 y.state, .int .i64 y.parts, .int .i64 y.last] 28)))
          clear hb3 HTO
          go_wp2_with fail
          go_ret2
          have h9 := HR3.out
          rw [HY.out] at h9
          subst h9
          exact ⟨rfl, HT3.out⟩
        · have HR3 := hid (hr3.trans (if_pos hq0))
          have hz1 : (q4 != 0) = true := by simpa using hq0
          have hz2 : decide (q4 = 0) = false := decide_eq_false hq0
          clear hr3 hq4
          go_wp2_with fail
          go_ret2
          have h9 := HR3.out
          subst h9
          exact ⟨rfl, HTO.out⟩
  · have hr1 := HRR.out.symm.trans (if_pos hz0)
    have HR1 := hid hr1
    have hz1 : (z != 0) = true := by simpa using hz0
    have hz2 : decide (z = 0) = false := decide_eq_false hz0
    have HTT := hid (TrioTo.of_below HT.out (Below.refl _ _))
    clear hr1 HRR HG
    go_enter Tryz.func27, Tryz.ntmps27
    go_wp2_with fail
    refine HRD.out.mono ?_
    rintro e w' ⟨rfl, rfl⟩
    go_wp2_with fail
    go_ret2
    have h9 := HR1.out
    subst h9
    exact ⟨rfl, HTT.out⟩

set_option maxHeartbeats 4000000 in
theorem coComplete_any (pid : Int) (h : Trio (coThing c l) w l d S SL SD C A.toP D) (hr : TRight C.rows) (hg : A.e = 0 → NGood coNotes N C.rows A D) :
    Calls Tryz.prog 28 #[.pointer (some ⟨c, 0, none⟩), .int .i64 pid] w (CallPost c l w d S SL SD (C.complete A.toP D pid) (.tuple #[.int .i64 (C.complete A.toP D pid).n, .int .i64 (C.complete A.toP D pid).e])) := by
  obtain ⟨rr, hrr⟩ : ∃ rr, C.complete A.toP D pid = rr := ⟨_, rfl⟩
  rw [hrr]
  unfold PCo.complete at hrr
  have HRR := hid hrr
  have HT := hid h
  have HTR := hid hr
  have HRD := hid (coReady_any pid h)
  obtain ⟨z, hz⟩ : ∃ z, coReady A.toP pid = z := ⟨_, rfl⟩
  rw [hz] at HRD HRR
  have hgood : z = 0 → NGood coNotes N C.rows A D ∧ 1 ≤ pid ∧ pid ≤ 8 := fun h9 => by
    obtain ⟨h1, h2⟩ := coReady_zero (hz.trans h9)
    exact ⟨hg h2, h1⟩
  have HG := hid hgood
  clear hrr hz hgood hg hr
  by_cases hz0 : z = 0
  · subst hz0
    have hr2 := HRR.out.symm.trans (if_neg (fun h9 => h9 rfl))
    obtain ⟨hng, hp1, hp2⟩ := HG.out rfl
    have HNG := hid hng
    clear HG hng
    obtain ⟨q, hq⟩ : ∃ q, coWrite C.rows A.toP D ⟨5, pid, 0⟩ = q := ⟨_, rfl⟩
    have hrt := coWrite_right (L := A.toP) (D := D) (n := ⟨5, pid, 0⟩) HTR.out
    rw [hq] at hr2 hrt
    have HR2 := hid hr2
    have hq8 := hrt.len
    have HWR : Hid (∀ W, Trio (coThing c l) W l d S SL SD C A.toP D → Calls Tryz.prog 36 #[.pointer (some ⟨c, 0, none⟩), .agg #[.int .i64 5, .int .i64 pid, .int .i64 0]] W (CoPost c l W d S SL SD { C with rows := q.1 } q.2.1 q.2.2.1 (.returned (.int .i64 q.2.2.2)))) := hid (fun W hW => by
      have h9 := coWrite_any ⟨5, pid, 0⟩ hW HNG.out
      rw [hq] at h9
      exact h9)
    clear hr2 hrt hq HRR h
    go_enter Tryz.func28, Tryz.ntmps28
    go_wp2_with fail
    refine HRD.out.mono ?_
    rintro e w' ⟨rfl, rfl⟩
    go_wp2_with fail
    refine (HWR.out _ HT.out).mono ?_
    rintro e w2 ⟨rfl, hto⟩
    have HTO := hid (TrioTo.after (Below.refl _ _) hto)
    obtain ⟨S2, SL2, SD2, ha2, _⟩ := hto.split
    obtain ⟨rv2, hrep2⟩ := CoAt.rep ha2.1.obj
    have y2 := hrep2.c0.2
    have HREP2 := hid hrep2
    clear hto ha2 hrep2
    obtain ⟨q4, hq4⟩ : ∃ q4, q.2.2.2 = q4 := ⟨_, rfl⟩
    have hr3 := HR2.out
    rw [hq4] at hr3 ⊢
    by_cases hq0 : q4 = 0
    · have HR3 := hid (hr3.trans (if_neg (fun h9 => h9 hq0)))
      subst hq0
      obtain ⟨y, hy⟩ : ∃ y, rowZ q.1 pid = y := ⟨_, rfl⟩
      have HY := hid hy
      clear hr3 hy hq4
      go_wp2_with fail
      refine (txRow pid (Reads.of_own HREP2.out.rows) (by show q.1.length ≤ _; omega)).mono ?_
      rintro e w3 ⟨rfl, hb3⟩
      dsimp only
      rw [HY.out]
      unfold PTr.val
      have HT3 := hid (HTO.out.then_below (bel_alloc hb3 (.cells #[.int .i64 y.pid, .int .i64 y.epoch, .int .i64 y.state, .int .i64 y.parts, .int .i64 y.last] 28)))
      clear hb3 HTO
      go_wp2_with fail
      go_ret2
      have h9 := HR3.out
      rw [HY.out] at h9
      subst h9
      exact ⟨rfl, HT3.out⟩
    · have HR3 := hid (hr3.trans (if_pos hq0))
      have hz1 : (q4 != 0) = true := by simpa using hq0
      have hz2 : decide (q4 = 0) = false := decide_eq_false hq0
      clear hr3 hq4
      go_wp2_with fail
      go_ret2
      have h9 := HR3.out
      subst h9
      exact ⟨rfl, HTO.out⟩
  · have hr1 := HRR.out.symm.trans (if_pos hz0)
    have HR1 := hid hr1
    have hz1 : (z != 0) = true := by simpa using hz0
    have hz2 : decide (z = 0) = false := decide_eq_false hz0
    have HTT := hid (TrioTo.of_below HT.out (Below.refl _ _))
    clear hr1 HRR HG h
    go_enter Tryz.func28, Tryz.ntmps28
    go_wp2_with fail
    refine HRD.out.mono ?_
    rintro e w' ⟨rfl, rfl⟩
    go_wp2_with fail
    go_ret2
    have h9 := HR1.out
    subst h9
    exact ⟨rfl, HTT.out⟩
end
end Go.Proofs.YtbnefpdjcbegpaaGreatDoor

namespace Go.Proofs.YtbnefpdjcbegpaaGreatDoor
open Go.RowKit

/-- A time is set. -/
theorem CoAt.due_to {w : World} {c l : Nat} {S : Nat → Prop} {C : PCo} (h : (coThing c l).held w S C) {p : Nat} (hp : p < 9) (z : Int) :
    (coThing c l).to w (w.setCell ⟨c, 2 + p, none⟩ (.int .i64 z)) S { C with due := C.due.set p z } := by
  obtain ⟨rv, hrep, hS⟩ := h
  have hf : Fr (fun k => k = c) w (w.setCell ⟨c, 2 + p, none⟩ (.int .i64 z)) := (Fr.refl (fun k => k = c) w).setCell (p := ⟨c, 2 + p, none⟩) (.inl rfl) _
  have hd := hrep.due
  refine ⟨S, ⟨rv, ⟨?_, row_fr hrep.rows hf (fun k hk e => ?_), by show (C.due.set p z).length = 9; rw [List.length_set]; exact hd⟩, hS⟩, hf.mono (fun k _ hk => (hS k).2 (.inl hk)), fun k hk => .inl hk⟩
  · have h9 := hrep.hdr.set (2 + p) (.int .i64 z)
    have e : (coCells l rv C).toArray.setIfInBounds (2 + p) (.int .i64 z) = (coCells l rv { C with due := C.due.set p z }).toArray := by
      unfold coCells
      rw [List.setIfInBounds_toArray]
      congr 1
      rw [List.append_assoc, List.append_assoc, List.set_append_right _ _ (by simp), List.set_append_left _ _ (by simp; omega)]
      simp only [List.length_cons, List.length_nil]
      rw [show 2 + p - (0 + 1 + 1) = p by omega, List.map_set]
    rw [e] at h9
    exact h9
  · subst e
    obtain ⟨cs, hc⟩ := row_blk9 hrep.rows hk
    have := (hc.inj hrep.hdr).2
    exact absurd this (by decide)

section
variable {w : World} {c l d : Nat} {S SL SD : Nat → Prop} {C : PCo} {A : ALog} {D : PDisk} {N : Int}

set_option maxHeartbeats 8000000 in
theorem coAdd_any (pid epoch parts : Int) (h : Trio (coThing c l) w l d S SL SD C A.toP D) (hr : TRight C.rows) (hg : A.e = 0 → NGood coNotes N C.rows A D) (hnow : 0 ≤ C.now ∧ C.now ≤ 1000000) :
    Calls Tryz.prog 12 #[.pointer (some ⟨c, 0, none⟩), .int .i64 pid, .int .i64 epoch, .int .i64 parts] w (CallPost c l w d S SL SD (C.add A.toP D pid epoch parts) (.int .i64 (C.add A.toP D pid epoch parts).e)) := by
  obtain ⟨rr, hrr⟩ : ∃ rr, C.add A.toP D pid epoch parts = rr := ⟨_, rfl⟩
  rw [hrr]
  unfold PCo.add at hrr
  have HRR := hid hrr
  have HT := hid h
  have HTR := hid hr
  obtain ⟨hn1, hn2⟩ := hnow
  obtain ⟨k, hk⟩ : ∃ k, (TNote.mk 2 pid parts).code = k := ⟨_, rfl⟩
  have hck : ∀ W, Calls Tryz.prog 32 #[.agg #[.int .i64 2, .int .i64 pid, .int .i64 parts]] W fun e w' => e = .returned (.int .i64 k) ∧ Below W.heap.size W w' := fun W => by
    have h9 := txCheck ⟨2, pid, parts⟩ W
    rw [hk] at h9
    exact h9
  have HCK := hid hck
  have hba : Below w.heap.size w (w.alloc (.cells #[.int .i64 2, .int .i64 pid, .int .i64 parts] 68)) := bel_alloc (Below.refl w.heap.size w) _
  have HBA := hid hba
  have HBK := hid (Blk.new w #[.int .i64 2, .int .i64 pid, .int .i64 parts] 68)
  clear hrr hck hba hr
  by_cases hok : (TNote.mk 2 pid parts).ok
  · have hk0 : k = 0 := by rw [← hk]; exact if_pos hok
    subst hk0
    have hr1 := HRR.out.symm.trans (if_neg (fun h9 => h9 hok))
    have HR1 := hid hr1
    have HOK := hid hok
    have hp1 : 1 ≤ pid := hok.1.1
    have hp2 : pid ≤ 8 := hok.1.2
    clear hr1 HRR hok hk
    obtain ⟨z, hz⟩ : ∃ z, coReady A.toP pid = z := ⟨_, rfl⟩
    have hgood : z = 0 → NGood coNotes N C.rows A D := fun h9 => hg (coReady_zero (hz.trans h9)).2
    have HG := hid hgood
    rw [hz] at HR1
    have HRD : Hid (∀ W, Trio (coThing c l) W l d S SL SD C A.toP D → Calls Tryz.prog 33 #[.pointer (some ⟨c, 0, none⟩), .int .i64 pid] W fun e w' => e = .returned (.int .i64 z) ∧ W = w') := hid (fun W hW => by
      have h9 := coReady_any pid hW
      rw [hz] at h9
      exact h9)
    clear hz hgood hg h
    go_enter Tryz.func12, Tryz.ntmps12
    go_wp2_with fail
    refine (HCK.out _).mono ?_
    rintro e w1 ⟨rfl, hb1⟩
    have HB1 := hid (bel_next HBA.out hb1)
    have HBK1 := hid (HBK.out.below' hb1)
    have HT1 := hid (HT.out.below HB1.out)
    clear hb1 HBA HBK HCK
    go_wp2_with fail
    refine (HRD.out _ HT1.out).mono ?_
    rintro e w' ⟨rfl, rfl⟩
    by_cases hz0 : z = 0
    · subst hz0
      have HR2 := hid (HR1.out.trans (if_neg (fun h9 => h9 rfl)))
      have HNG := hid (HG.out rfl)
      clear HR1 HG
      go_wp2_with fail
      refine (coRow_any pid epoch HT1.out HTR.out).mono ?_
      rintro e w2 ⟨rfl, hb2⟩
      obtain ⟨x, hx⟩ : ∃ x, rowZ C.rows pid = x := ⟨_, rfl⟩
      obtain ⟨cc, hcc⟩ : ∃ cc, rowE C.rows pid epoch = cc := ⟨_, rfl⟩
      have hr2 := HR2.out
      rw [hx, hcc] at hr2 ⊢
      have HX := hid hx
      unfold PTr.val
      have HB2 := hid (bel_next HB1.out hb2)
      have HBA2 := hid (bel_alloc HB2.out (.cells #[.int .i64 x.pid, .int .i64 x.epoch, .int .i64 x.state, .int .i64 x.parts, .int .i64 x.last] 28))
      have HBK2 := hid ((HBK1.out.below' hb2).alloc (.cells #[.int .i64 x.pid, .int .i64 x.epoch, .int .i64 x.state, .int .i64 x.parts, .int .i64 x.last] 28))
      have HBX := hid (Blk.new w2 #[.int .i64 x.pid, .int .i64 x.epoch, .int .i64 x.state, .int .i64 x.parts, .int .i64 x.last] 28)
      clear hx hcc hb2 HR2
      by_cases hc0 : cc = 0
      · subst hc0
        have HR3 := hid (hr2.trans (if_neg (fun h9 => h9 rfl)))
        clear hr2
        go_wp2_with fail
        have hdec := coDecided_any x (w2.alloc (.cells #[.int .i64 x.pid, .int .i64 x.epoch, .int .i64 x.state, .int .i64 x.parts, .int .i64 x.last] 28))
        unfold PTr.val at hdec
        refine hdec.mono ?_
        rintro e w3 ⟨rfl, hb3⟩
        have HB3 := hid (bel_next HBA2.out hb3)
        have HBK3 := hid (HBK2.out.below' hb3)
        have HBX3 := hid (HBX.out.below' hb3)
        have m3 := HBX3.out.cell (i := 3) (v := .int .i64 x.parts) rfl
        have n0 := HBK3.out.cell (i := 0) (v := .int .i64 2) rfl
        have n1 := HBK3.out.cell (i := 1) (v := .int .i64 pid) rfl
        have n2 := HBK3.out.cell (i := 2) (v := .int .i64 parts) rfl
        clear hb3 hdec HBA2 HBK2 HBX
        by_cases hs : x.state = 3 ∨ x.state = 4
        · rw [decide_eq_true hs]
          have HR4 := hid (HR3.out.trans (if_pos hs))
          have HTT := hid (TrioTo.of_below HT.out HB3.out)
          go_wp2_with fail
          go_ret
          have h9 := HR4.out
          subst h9
          exact ⟨rfl, HTT.out⟩
        · rw [decide_eq_false hs]
          have hr4 := HR3.out.trans (if_neg hs)
          obtain ⟨p, rfl⟩ : ∃ p : Nat, pid = p := ⟨pid.toNat, by omega⟩
          have hp9 : p < 9 := by omega
          rw [Int.toNat_natCast] at hr4
          have HR4 := hid hr4
          clear hr4 HR3
          by_cases hm : andI x.parts parts = parts
          · have HR5 := hid (HR4.out.trans (if_pos hm))
            have HTW := hid (HT.out.below HB3.out)
            obtain ⟨rv, hrep⟩ := CoAt.rep HTW.out.obj
            have y2 := hrep.due_at hp9
            have y3 := hrep.now_at
            have f2 := hrep.hdr.free (2 + p)
            have hmb : (bits BinOp.and IntKind.i64 x.parts parts != parts) = false := by unfold andI at hm; simpa using hm
            have htd := HTW.out.below (Below.refl w3.heap.size w3).drew
            have HTO := hid (TrioTo.after HB3.out.drew (htd.obj_to (CoAt.due_to htd.obj hp9 (C.now + 10))))
            clear hrep hm htd
            go_wp2_with fail
            go_region
            all_goals go_wp2_with fail
            go_ret
            have h9 := HR5.out
            subst h9
            exact ⟨rfl, HTO.out⟩
          · have hr5 := HR4.out.trans (if_neg hm)
            have hmb : (bits BinOp.and IntKind.i64 x.parts parts != parts) = true := by unfold andI at hm; simpa using hm
            obtain ⟨q, hq⟩ : ∃ q, coWrite C.rows A.toP D ⟨2, p, parts⟩ = q := ⟨_, rfl⟩
            rw [hq] at hr5
            have HR5 := hid hr5
            have HTW := hid (HT.out.below HB3.out)
            have hwr := coWrite_any ⟨2, p, parts⟩ HTW.out HNG.out
            rw [hq] at hwr
            unfold TNote.val at hwr
            have HWR := hid hwr
            clear hr5 hm hq hwr HR4
            go_wp2_with fail
            refine HWR.out.mono ?_
            rintro e w4 ⟨rfl, hto⟩
            have HTO := hid (TrioTo.after HB3.out hto)
            obtain ⟨q4, hq4⟩ : ∃ q4, q.2.2.2 = q4 := ⟨_, rfl⟩
            have hr6 := HR5.out
            rw [hq4] at hr6 ⊢
            by_cases hq0 : q4 = 0
            · have HR6 := hid (hr6.trans (if_neg (fun h9 => h9 hq0)))
              subst hq0
              obtain ⟨S4, SL4, SD4, ha4, _⟩ := hto.split
              obtain ⟨rv4, hrep4⟩ := CoAt.rep ha4.1.obj
              have y2 := hrep4.due_at hp9
              have y3 := hrep4.now_at
              have f2 := hrep4.hdr.free (2 + p)
              dsimp only at y2 y3
              have HT6 := hid ((HTO.out.then_below (Below.refl w4.heap.size w4).drew).trans (fun _ _ _ ht => ht.obj_to (CoAt.due_to ht.obj hp9 (C.now + 10))))
              clear hr6 hq4 hto ha4 hrep4
              go_wp2_with fail
              go_region
              all_goals go_wp2_with fail
              go_ret
              have h9 := HR6.out
              subst h9
              exact ⟨rfl, HT6.out⟩
            · have HR6 := hid (hr6.trans (if_pos hq0))
              have hz1 : (q4 != 0) = true := by simpa using hq0
              have hz2 : decide (q4 = 0) = false := decide_eq_false hq0
              clear hr6 hq4 hto
              go_wp2_with fail
              go_ret
              have h9 := HR6.out
              subst h9
              exact ⟨rfl, HTO.out⟩
      · have HR3 := hid (hr2.trans (if_pos hc0))
        have hz1 : (cc != 0) = true := by simpa using hc0
        have hz2 : decide (cc = 0) = false := decide_eq_false hc0
        have HTT := hid (TrioTo.of_below HT.out HBA2.out)
        clear hr2
        go_wp2_with fail
        go_ret
        have h9 := HR3.out
        subst h9
        exact ⟨rfl, HTT.out⟩
    · have HR2 := hid (HR1.out.trans (if_pos hz0))
      have hz1 : (z != 0) = true := by simpa using hz0
      have hz2 : decide (z = 0) = false := decide_eq_false hz0
      have HTT := hid (TrioTo.of_below HT.out HB1.out)
      clear HR1
      go_wp2_with fail
      go_ret
      have h9 := HR2.out
      subst h9
      exact ⟨rfl, HTT.out⟩
  · have hk1 : k = 1 := by rw [← hk]; exact if_neg hok
    subst hk1
    have HR1 := hid (HRR.out.symm.trans (if_pos hok))
    clear HRR hk hok hg h
    go_enter Tryz.func12, Tryz.ntmps12
    go_wp2_with fail
    refine (HCK.out _).mono ?_
    rintro e w1 ⟨rfl, hb1⟩
    have HTT := hid (TrioTo.of_below HT.out (bel_next HBA.out hb1))
    clear hb1
    go_wp2_with fail
    go_ret
    have h9 := HR1.out
    subst h9
    exact ⟨rfl, HTT.out⟩
end
end Go.Proofs.YtbnefpdjcbegpaaGreatDoor

namespace Go.Proofs.YtbnefpdjcbegpaaGreatDoor
open Go.RowKit

theorem rowE_in {s : List PTr} (_ : TRight s) {pid epoch : Int} : (rowE s pid epoch = 0 ∧ (rowZ s pid).epoch = epoch ∧ rowZ s pid ∈ s) ∨ rowE s pid epoch = 3 ∨ (rowE s pid epoch = 8 ∧ (rowZ s pid).epoch ≠ epoch ∧ rowZ s pid ∈ s) := by
  unfold rowE rowZ
  cases hro : rowOf s pid with
  | none => exact .inr (.inl rfl)
  | some t =>
    have hm := (rowOf_mem hro).1
    dsimp only [Option.getD_some]
    by_cases h9 : t.epoch = epoch
    · exact .inl ⟨if_neg (fun h => h h9), h9, hm⟩
    · exact .inr (.inr ⟨if_pos h9, h9, hm⟩)

section
variable {w : World} {c l d : Nat} {S SL SD : Nat → Prop} {C : PCo} {A : ALog} {D : PDisk} {N : Int}

set_option maxHeartbeats 8000000 in
theorem coEnd_any (pid epoch : Int) (yes : Bool) (h : Trio (coThing c l) w l d S SL SD C A.toP D) (hr : TRight C.rows) (hg : A.e = 0 → NGood coNotes N C.rows A D) :
    Calls Tryz.prog 15 #[.pointer (some ⟨c, 0, none⟩), .int .i64 pid, .int .i64 epoch, .bool yes] w (CallPost c l w d S SL SD (C.fin A.toP D pid epoch yes) (.tuple #[.bool (decide ((C.fin A.toP D pid epoch yes).n = 1)), .int .i64 (C.fin A.toP D pid epoch yes).e])) := by
  obtain ⟨rr, hrr⟩ : ∃ rr, C.fin A.toP D pid epoch yes = rr := ⟨_, rfl⟩
  rw [hrr]
  unfold PCo.fin at hrr
  have HT := hid h
  have HTR := hid hr
  obtain ⟨z, hz⟩ : ∃ z, coReady A.toP pid = z := ⟨_, rfl⟩
  have hgood : z = 0 → NGood coNotes N C.rows A D := fun h9 => hg (coReady_zero (hz.trans h9)).2
  have HG := hid hgood
  have hrd := coReady_any pid h
  rw [hz] at hrr hrd
  have HRD := hid hrd
  have HRR := hid hrr
  have hin := rowE_in hr (pid := pid) (epoch := epoch)
  have HIN := hid hin
  clear hz hgood hg h hrd hrr hin hr
  by_cases hz0 : z = 0
  · subst hz0
    have hr1 := HRR.out.symm.trans (if_neg (fun h9 => h9 rfl))
    have HNG := hid (HG.out rfl)
    have HR1 := hid hr1
    clear HRR HG hr1
    obtain ⟨x, hx⟩ : ∃ x, rowZ C.rows pid = x := ⟨_, rfl⟩
    obtain ⟨cc, hcc⟩ : ∃ cc, rowE C.rows pid epoch = cc := ⟨_, rfl⟩
    have hin2 := HIN.out
    rw [hx, hcc] at hin2
    have HROWC := hid (coRow_any pid epoch HT.out HTR.out)
    have hr2 := HR1.out
    rw [hx, hcc] at hr2
    have HX := hid hx
    have HCC := hid hcc
    have HIN2 := hid hin2
    have HR2 := hid hr2
    clear HR1 hx hcc hin2 hr2 HIN
    cases yes with
    | true =>
      go_enter Tryz.func15, Tryz.ntmps15
      go_wp2_with fail
      refine HRD.out.mono ?_
      rintro e w' ⟨rfl, rfl⟩
      go_wp2_with fail
      refine HROWC.out.mono ?_
      rintro e w2 ⟨rfl, hb2⟩
      rw [HX.out, HCC.out]
      unfold PTr.val
      have HBA := hid (bel_alloc hb2 (.cells #[.int .i64 x.pid, .int .i64 x.epoch, .int .i64 x.state, .int .i64 x.parts, .int .i64 x.last] 28))
      have HTT := hid (TrioTo.of_below HT.out HBA.out)
      clear hb2
      have hr3 := HR2.out
      rcases HIN2.out with ⟨hc0, hxe, hxm⟩ | hc3 | ⟨hc8, hxe, hxm⟩
      · subst hc0
        clear hxe hxm
        have hr4 := hr3.trans ((if_neg (fun h9 => absurd h9.1 (by decide))).trans (if_neg (fun h9 => h9 rfl)))
        by_cases hs : x.state = 3
        · have HR5 := hid (hr4.trans (if_pos hs))
          have hd : decide (x.state = 3) = true := decide_eq_true hs
          have hb9 : (x.state == 3) = true := by simpa using hs
          clear hr3 hr4 hs
          go_wp2_with fail
          go_ret2
          have h9 := HR5.out
          subst h9
          exact ⟨rfl, HTT.out⟩
        · have hr5 := hr4.trans (if_neg hs)
          have hd : decide (x.state = 3) = false := decide_eq_false hs
          have hb9 : (x.state == 3) = false := by simpa using hs
          by_cases hs2 : x.state = 2
          · have hr6 := hr5.trans (if_neg (fun h9 => h9 hs2))
            have hd2 : decide (x.state = 2) = true := decide_eq_true hs2
            have hb8 : (x.state != 2) = false := by simpa using hs2
            obtain ⟨q, hq⟩ : ∃ q, coWrite C.rows A.toP D ⟨3, pid, 0⟩ = q := ⟨_, rfl⟩
            have hwr := coWrite_any ⟨3, pid, 0⟩ (HT.out.below HBA.out) HNG.out
            rw [hq] at hwr
            have HR6 := hid hr6
            have HQ := hid hq
            unfold TNote.val at hwr
            have HWR := hid hwr
            clear hr3 hr4 hr5 hr6 hs hs2 hq hwr
            go_wp2_with fail
            refine HWR.out.mono ?_
            rintro e w4 ⟨rfl, hto⟩
            have HTO := hid (TrioTo.after HBA.out hto)
            clear hto
            go_wp2_with fail
            go_ret2
            have h9 := HR6.out
            simp only [if_true] at h9
            rw [HQ.out] at h9
            subst h9
            exact ⟨rfl, HTO.out⟩
          · have HR6 := hid (hr5.trans (if_pos hs2))
            have hd2 : decide (x.state = 2) = false := decide_eq_false hs2
            have hb8 : (x.state != 2) = true := by simpa using hs2
            clear hr3 hr4 hr5 hs hs2
            go_wp2_with fail
            go_ret2
            have h9 := HR6.out
            subst h9
            exact ⟨rfl, HTT.out⟩
      · subst hc3
        have HR4 := hid (hr3.trans ((if_neg (fun h9 => absurd h9.1 (by decide))).trans (if_pos (by decide))))
        clear hr3
        go_wp2_with fail
        go_ret2
        have h9 := HR4.out
        subst h9
        exact ⟨rfl, HTT.out⟩
      · subst hc8
        have hbd := HTR.out.all x hxm
        have he1 : 1 ≤ x.epoch := hbd.2.1
        have he2 : x.epoch ≤ 1099511627776 := hbd.2.2
        clear hbd hxm hxe
        by_cases h1 : x.epoch - 1 = epoch
        · have hd1 : decide (x.epoch - 1 = epoch) = true := decide_eq_true h1
          have hb1 : (x.epoch - 1 == epoch) = true := by simpa using h1
          by_cases h2 : x.state = 1
          · have hd2 : decide (x.state = 1) = true := decide_eq_true h2
            have hb2 : (x.state == 1) = true := by simpa using h2
            by_cases h3 : x.last = 3
            · have hd3 : decide (x.last = 3) = true := decide_eq_true h3
              have hb3 : (x.last == 3) = true := by simpa using h3
              have HR4 := hid (hr3.trans (if_pos ⟨rfl, h1, h2, h3⟩))
              clear hr3 h1 h2 h3
              go_wp2_with fail
              go_ret2
              have h9 := HR4.out
              subst h9
              exact ⟨rfl, HTT.out⟩
            · have hd3 : decide (x.last = 3) = false := decide_eq_false h3
              have hb3 : (x.last == 3) = false := by simpa using h3
              have HR4 := hid (hr3.trans ((if_neg (fun h9 => h3 h9.2.2.2)).trans (if_pos (by decide))))
              clear hr3 h1 h2 h3
              go_wp2_with fail
              go_ret2
              have h9 := HR4.out
              subst h9
              exact ⟨rfl, HTT.out⟩
          · have hd2 : decide (x.state = 1) = false := decide_eq_false h2
            have hb2 : (x.state == 1) = false := by simpa using h2
            have HR4 := hid (hr3.trans ((if_neg (fun h9 => h2 h9.2.2.1)).trans (if_pos (by decide))))
            clear hr3 h1 h2
            go_wp2_with fail
            go_ret2
            have h9 := HR4.out
            subst h9
            exact ⟨rfl, HTT.out⟩
        · have hd1 : decide (x.epoch - 1 = epoch) = false := decide_eq_false h1
          have hb1 : (x.epoch - 1 == epoch) = false := by simpa using h1
          have HR4 := hid (hr3.trans ((if_neg (fun h9 => h1 h9.2.1)).trans (if_pos (by decide))))
          clear hr3 h1
          go_wp2_with fail
          go_ret2
          have h9 := HR4.out
          subst h9
          exact ⟨rfl, HTT.out⟩
    | false =>
      go_enter Tryz.func15, Tryz.ntmps15
      go_wp2_with fail
      refine HRD.out.mono ?_
      rintro e w' ⟨rfl, rfl⟩
      go_wp2_with fail
      refine HROWC.out.mono ?_
      rintro e w2 ⟨rfl, hb2⟩
      rw [HX.out, HCC.out]
      unfold PTr.val
      have HBA := hid (bel_alloc hb2 (.cells #[.int .i64 x.pid, .int .i64 x.epoch, .int .i64 x.state, .int .i64 x.parts, .int .i64 x.last] 28))
      have HTT := hid (TrioTo.of_below HT.out HBA.out)
      clear hb2
      have hr3 := HR2.out
      rcases HIN2.out with ⟨hc0, hxe, hxm⟩ | hc3 | ⟨hc8, hxe, hxm⟩
      · subst hc0
        clear hxe hxm
        have hr4 := hr3.trans ((if_neg (fun h9 => absurd h9.1 (by decide))).trans (if_neg (fun h9 => h9 rfl)))
        by_cases hs : x.state = 4
        · have HR5 := hid (hr4.trans (if_pos hs))
          have hd : decide (x.state = 4) = true := decide_eq_true hs
          have hb9 : (x.state == 4) = true := by simpa using hs
          clear hr3 hr4 hs
          go_wp2_with fail
          go_ret2
          have h9 := HR5.out
          subst h9
          exact ⟨rfl, HTT.out⟩
        · have hr5 := hr4.trans (if_neg hs)
          have hd : decide (x.state = 4) = false := decide_eq_false hs
          have hb9 : (x.state == 4) = false := by simpa using hs
          by_cases hs2 : x.state = 2
          · have hr6 := hr5.trans (if_neg (fun h9 => h9 hs2))
            have hd2 : decide (x.state = 2) = true := decide_eq_true hs2
            have hb8 : (x.state != 2) = false := by simpa using hs2
            obtain ⟨q, hq⟩ : ∃ q, coWrite C.rows A.toP D ⟨4, pid, 0⟩ = q := ⟨_, rfl⟩
            have hwr := coWrite_any ⟨4, pid, 0⟩ (HT.out.below HBA.out) HNG.out
            rw [hq] at hwr
            have HR6 := hid hr6
            have HQ := hid hq
            unfold TNote.val at hwr
            have HWR := hid hwr
            clear hr3 hr4 hr5 hr6 hs hs2 hq hwr
            go_wp2_with fail
            refine HWR.out.mono ?_
            rintro e w4 ⟨rfl, hto⟩
            have HTO := hid (TrioTo.after HBA.out hto)
            clear hto
            go_wp2_with fail
            go_ret2
            have h9 := HR6.out
            simp only [Bool.false_eq_true, if_false] at h9
            rw [HQ.out] at h9
            subst h9
            exact ⟨rfl, HTO.out⟩
          · have HR6 := hid (hr5.trans (if_pos hs2))
            have hd2 : decide (x.state = 2) = false := decide_eq_false hs2
            have hb8 : (x.state != 2) = true := by simpa using hs2
            clear hr3 hr4 hr5 hs hs2
            go_wp2_with fail
            go_ret2
            have h9 := HR6.out
            subst h9
            exact ⟨rfl, HTT.out⟩
      · subst hc3
        have HR4 := hid (hr3.trans ((if_neg (fun h9 => absurd h9.1 (by decide))).trans (if_pos (by decide))))
        clear hr3
        go_wp2_with fail
        go_ret2
        have h9 := HR4.out
        subst h9
        exact ⟨rfl, HTT.out⟩
      · subst hc8
        have hbd := HTR.out.all x hxm
        have he1 : 1 ≤ x.epoch := hbd.2.1
        have he2 : x.epoch ≤ 1099511627776 := hbd.2.2
        clear hbd hxm hxe
        by_cases h1 : x.epoch - 1 = epoch
        · have hd1 : decide (x.epoch - 1 = epoch) = true := decide_eq_true h1
          have hb1 : (x.epoch - 1 == epoch) = true := by simpa using h1
          by_cases h2 : x.state = 1
          · have hd2 : decide (x.state = 1) = true := decide_eq_true h2
            have hb2 : (x.state == 1) = true := by simpa using h2
            by_cases h3 : x.last = 4
            · have hd3 : decide (x.last = 4) = true := decide_eq_true h3
              have hb3 : (x.last == 4) = true := by simpa using h3
              have HR4 := hid (hr3.trans (if_pos ⟨rfl, h1, h2, h3⟩))
              clear hr3 h1 h2 h3
              go_wp2_with fail
              go_ret2
              have h9 := HR4.out
              subst h9
              exact ⟨rfl, HTT.out⟩
            · have hd3 : decide (x.last = 4) = false := decide_eq_false h3
              have hb3 : (x.last == 4) = false := by simpa using h3
              have HR4 := hid (hr3.trans ((if_neg (fun h9 => h3 h9.2.2.2)).trans (if_pos (by decide))))
              clear hr3 h1 h2 h3
              go_wp2_with fail
              go_ret2
              have h9 := HR4.out
              subst h9
              exact ⟨rfl, HTT.out⟩
          · have hd2 : decide (x.state = 1) = false := decide_eq_false h2
            have hb2 : (x.state == 1) = false := by simpa using h2
            have HR4 := hid (hr3.trans ((if_neg (fun h9 => h2 h9.2.2.1)).trans (if_pos (by decide))))
            clear hr3 h1 h2
            go_wp2_with fail
            go_ret2
            have h9 := HR4.out
            subst h9
            exact ⟨rfl, HTT.out⟩
        · have hd1 : decide (x.epoch - 1 = epoch) = false := decide_eq_false h1
          have hb1 : (x.epoch - 1 == epoch) = false := by simpa using h1
          have HR4 := hid (hr3.trans ((if_neg (fun h9 => h1 h9.2.1)).trans (if_pos (by decide))))
          clear hr3 h1
          go_wp2_with fail
          go_ret2
          have h9 := HR4.out
          subst h9
          exact ⟨rfl, HTT.out⟩
  · have HR1 := hid (HRR.out.symm.trans (if_pos hz0))
    have hz1 : (z != 0) = true := by simpa using hz0
    have hz2 : decide (z = 0) = false := decide_eq_false hz0
    have HTT := hid (TrioTo.of_below HT.out (Below.refl _ _))
    clear HRR HG HIN
    go_enter Tryz.func15, Tryz.ntmps15
    go_wp2_with fail
    refine HRD.out.mono ?_
    rintro e w' ⟨rfl, rfl⟩
    go_wp2_with fail
    go_ret2
    have h9 := HR1.out
    subst h9
    exact ⟨rfl, HTT.out⟩

set_option maxHeartbeats 1000000 in
theorem coRows_any (h : Trio (coThing c l) w l d S SL SD C A.toP D) (hr : TRight C.rows) :
    Calls Tryz.prog 11 #[.pointer (some ⟨c, 0, none⟩)] w fun e w' => ∃ v, e = .returned v ∧ w'.ownsRow w.heap.size 28 5 v C.rows.length (trCells C.rows) ∧ Below w.heap.size w w' := by
  have hl8 := hr.len
  obtain ⟨rv, hrep⟩ := CoAt.rep h.obj
  have y1 := hrep.c0.2
  have HC := hid (cloneTr_any hrep.rows (tr_one C.rows) (by omega))
  clear hrep h hr
  go_enter Tryz.func11, Tryz.ntmps11
  go_wp2_with fail
  refine HC.out.mono ?_
  rintro e w1 ⟨v, rfl, hrow, hb⟩
  have HR := hid hrow
  have HB := hid hb
  clear hrow hb
  go_wp2_with fail
  go_ret
  exact ⟨v, rfl, HR.out, HB.out⟩
end
end Go.Proofs.YtbnefpdjcbegpaaGreatDoor
