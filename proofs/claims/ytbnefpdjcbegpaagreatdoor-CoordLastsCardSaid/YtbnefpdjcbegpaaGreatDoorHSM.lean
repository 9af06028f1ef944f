/-
  A log of notes that has its disk for itself: its files stay its own; a crash leaves what is synced as it is. No conditions.
  Chapter 13's laws: does: the walk. Conditions: a coordinator whose log is well, or tells that it is not; a time that fits.
-/
import Derived.Test.YtbnefpdjcbegpaaGreatDoorHEM
import Derived.Test.YtbnefpdjcbegpaaGreatDoorGOM
import Derived.Test.YtbnefpdjcbegpaaGreatDoorHRM
import Derived.Test.YtbnefpdjcbegpaaGreatDoorHPM
import Derived.Deep.DeepCutAuto
set_option maxRecDepth 100000
namespace Go.Proofs.YtbnefpdjcbegpaaGreatDoor
open Go.RowKit

def AllOwn (name : List UInt8) (D : PDisk) : Prop := ∀ f ∈ D.files, own name f = true

section
variable {σ : Type}

theorem NGood.note_own {P : Notes σ} {N : Int} {s s1 : σ} {A : ALog} {D : PDisk} {it : PItem} (h : NGood P N s A D) (hfu : D.fuse = -1) (ho : AllOwn P.name D) : AllOwn P.name (noteTo s s1 A.toP D it).2.2.1 := by
  have hwf : (A.toP.append D [it]).2.1.WF N := PLog.append_disk h.wf _
  have hao := h.inv.append_out h.wf h.e [it]
  have hnm := h.name
  unfold noteTo
  rw [toP_append] at hwf ⊢
  generalize A.append D [it] = r at hao hwf ⊢
  cases hao with
  | ok A' D' inv name all next chain first e sure own' off fuse ents =>
    dsimp only at hwf ⊢
    rw [if_neg (by decide), toP_sync]
    have hs := inv.sync_out hwf e
    have h1 : AllOwn P.name D' := by rw [← hnm] at ho ⊢; exact own' ho
    generalize A'.sync D' = q at hs ⊢
    cases hs with
    | ok A2 D2 inv2 name2 segs2 e2 sure2 room2 len2 own2 off2 fuse2 =>
      dsimp only
      rw [if_neg (by decide)]
      have h2 := own2
      rw [name, hnm] at h2
      exact h2 h1
    | dark D2 inv2 off2 was2 =>
      exfalso
      have h9 := fuse hfu
      rcases was2 with h8 | h8
      · rw [off] at h8; cases h8
      · omega
  | full A' D' inv name segs e sure room len own' off fuse =>
    dsimp only
    rw [if_pos (by decide)]
    dsimp only
    rw [← hnm] at ho ⊢
    exact own' ho
  | bad c why =>
    dsimp only
    split
    · exact ho
    · rename_i h8
      exfalso
      rcases why with ⟨_, h1⟩ | ⟨_, _, h1⟩ <;> omega
  | dark A' A2 D' inv name name2 segs sure sure' e chain max all off was first =>
    exfalso
    rcases was with h9 | h9
    · rw [h.off] at h9; cases h9
    · omega

/-- All is synced. -/
theorem NGood.calm {P : Notes σ} {N : Int} {s : σ} {A : ALog} {D : PDisk} (h : NGood P N s A D) (ho : AllOwn P.name D) : ∀ f ∈ D.files, f.loose = [] := by
  have hall : filesOf A.name D = D.files := by
    unfold filesOf
    refine List.filter_eq_self.2 ?_
    rw [h.name]; exact ho
  rw [← hall]
  rcases List.eq_nil_or_concat A.segs with h0 | ⟨a, s', h0⟩
  · have hfl : filesOf A.name D = [] := by have := h.inv.files; rw [h0] at this; simpa using this
    rw [hfl]
    intro f hf
    cases hf
  · rw [List.concat_eq_append] at h0
    have hsy := h.inv.sync
    obtain ⟨fs, f, h1, h2, ⟨p, q, h3, h4, h5, h6⟩, h7, h8⟩ := h.inv.last h0
    have hq : f.loose = [] := by
      have hc : Chain s'.base s'.ents := h.inv.chains (s := s') (by rw [h0]; simp)
      have hnx : A.next = endOf s'.base s'.ents := by rw [ALog.next_eq, h0, sEnd_snoc]; rfl
      have hsn := h.sure
      have hq0 : q = [] := by
        rw [h3] at hc hnx
        rcases List.eq_nil_or_concat q with hq | ⟨q', y, hq⟩
        · exact hq
        · exfalso
          rw [hq, List.concat_eq_append, ← List.append_assoc] at hc hnx
          have h11 := (endOf_prefix (Chain.app.1 hc).1).1
          obtain ⟨c1, c2, c3, c4⟩ := Chain.app.1 hc
          have hy : 1 ≤ y.n := c3.2.2.1
          have hb : y.base = endOf s'.base (p ++ q') := c2
          have he2 : endOf s'.base (p ++ q' ++ [y]) = y.base + y.n := by unfold endOf; simp
          rw [he2] at hnx
          omega
      rw [h5, hq0]; rfl
    rw [h1] at hsy ⊢
    rw [List.dropLast_concat] at hsy
    intro g hg
    rcases List.mem_append.1 hg with hg | hg
    · exact hsy g hg
    · obtain rfl : g = f := by simpa using hg
      exact hq

theorem crashF_calm (keep : List Int) : ∀ (l : List PFile) (i : Nat), (∀ f ∈ l, f.loose = []) → crashF keep i l = l
  | [], _, _ => rfl
  | f :: l, i, h => by
    have h1 := h f (by simp)
    rw [crashF, crashF_calm keep l (i + 1) (fun g hg => h g (by simp [hg]))]
    obtain ⟨a, b, c⟩ := f
    dsimp only at h1
    subst h1
    simp

theorem crash_calm {D : PDisk} (h : ∀ f ∈ D.files, f.loose = []) (ho : D.off = false) (hf : D.fuse = -1) (keep : List Int) : D.crash keep = D := by
  unfold PDisk.crash
  rw [crashF_calm keep _ _ h]
  obtain ⟨a, b, c, d⟩ := D
  dsimp only at ho hf ⊢
  subst ho hf
  rw [PDisk.mk.injEq]
  refine ⟨rfl, by omega, rfl, rfl⟩

/-- A crash, and it is opened: all is as it was. -/
theorem NGood.calmly {P : Notes σ} {N : Int} {s : σ} {A : ALog} {D : PDisk} (h : NGood P N s A D) (ho : AllOwn P.name D) (hf : D.fuse = -1) (keep : List Int) : D.crash keep = D ∧ D.openLog P.name = (A.toP, D, 0) := by
  refine ⟨crash_calm (h.calm ho) h.off hf keep, ?_⟩
  rw [← h.name]
  exact h.inv.still h.wf h.e h.sure h.off hf
end
end Go.Proofs.YtbnefpdjcbegpaaGreatDoor

namespace Go.Proofs.YtbnefpdjcbegpaaGreatDoor
open Go.RowKit

section
variable {w : World} {c l d : Nat} {S SL SD : Nat → Prop} {C : PCo} {A : ALog} {D : PDisk} {N : Int}

def DoesPost (c l : Nat) (w : World) (d : Nat) (S SL SD : Nat → Prop) (r : CRes) (e : Ending) (w' : World) : Prop :=
  e = .returned (.tuple #[]) ∧ TrioTo (coThing c l) w w' l d S SL SD r.C r.L r.D

set_option maxHeartbeats 4000000 in
theorem coDoes_any (x : CDeed) (ka : Option Addr) (kn kc : Nat) (h : Trio (coThing c l) w l d S SL SD C A.toP D) (hr : TRight C.rows) (hg : A.e = 0 → NGood coNotes N C.rows A D) (hn : 0 ≤ C.now ∧ C.now ≤ 1000000) :
    Calls Tryz.prog 23 #[.pointer (some ⟨c, 0, none⟩), .agg #[.int .i64 x.kind, .int .i64 x.pid, .int .i64 x.epoch, .int .i64 x.parts, .bool x.yes, .bool x.near, .slice ka kn kc]] w (DoesPost c l w d S SL SD (C.does A.toP D x (aimE x C.rows))) := by
  obtain ⟨rr, hrr⟩ : ∃ rr, C.does A.toP D x (aimE x C.rows) = rr := ⟨_, rfl⟩
  rw [hrr]
  have HRR := hid hrr
  clear hrr
  have hl8 := hr.len
  have HT := hid h
  have HTR := hid hr
  have HG := hid hg
  have HN := hid hn
  have hb1 : Below w.heap.size w (w.alloc (.cells #[.int .i64 x.kind, .int .i64 x.pid, .int .i64 x.epoch, .int .i64 x.parts, .bool x.yes, .bool x.near, .slice ka kn kc] 49)) := bel_alloc (Below.refl _ _) _
  have hk1 := Blk.new w #[.int .i64 x.kind, .int .i64 x.pid, .int .i64 x.epoch, .int .i64 x.parts, .bool x.yes, .bool x.near, .slice ka kn kc] 49
  have HB1 := hid hb1
  have HK1 := hid hk1
  clear h hr hg hb1 hk1 hn
  go_enter Tryz.func23, Tryz.ntmps23
  go_wp2_with fail
  generalize w.alloc (.cells #[.int .i64 x.kind, .int .i64 x.pid, .int .i64 x.epoch, .int .i64 x.parts, .bool x.yes, .bool x.near, .slice ka kn kc] 49) = w1 at HB1 HK1 ⊢
  generalize hbx : w.heap.size = bx at HK1 ⊢
  have HT1 := hid (HT.out.below HB1.out)
  have HROWS : Hid (∀ W, Below w1.heap.size w1 W → Calls Tryz.prog 11 #[.pointer (some ⟨c, 0, none⟩)] W fun e w' => ∃ v, e = .returned v ∧ w'.ownsRow W.heap.size 28 5 v C.rows.length (trCells C.rows) ∧ Below W.heap.size W w') := hid (fun W hW => coRows_any (HT1.out.below hW) HTR.out)
  have k0 := HK1.out.cell (i := 0) (v := .int .i64 x.kind) rfl
  have k1 := HK1.out.cell (i := 1) (v := .int .i64 x.pid) rfl
  have k2 := HK1.out.cell (i := 2) (v := .int .i64 x.epoch) rfl
  have k3 := HK1.out.cell (i := 3) (v := .int .i64 x.parts) rfl
  have k4 := HK1.out.cell (i := 4) (v := .bool x.yes) rfl
  have k5 := HK1.out.cell (i := 5) (v := .bool x.near) rfl
  have k6 := HK1.out.cell (i := 6) (v := .slice ka kn kc) rfl
  go_cut [7] (fun _ wx => Below w.heap.size w wx ∧ Blk wx bx (cdArr x (aimE x C.rows) (.slice ka kn kc)) 49)
  case first =>
    go_region_with (first
      | (refine (HROWS.out _ (by first | exact Below.refl _ _ | exact (Below.refl _ _).drew | exact (Below.refl _ _).drew.drew)).mono ?_; rintro e w9 ⟨v9, rfl, hrow9, hb9⟩; have hk9 := HK1.out.drew.below' hb9; have m0 := hk9.cell (i := 0) (v := .int .i64 x.kind) rfl; have m1 := hk9.cell (i := 1) (v := .int .i64 x.pid) rfl; have m2 := hk9.cell (i := 2) (v := .int .i64 x.epoch) rfl; have m3 := hk9.cell (i := 3) (v := .int .i64 x.parts) rfl; have m4 := hk9.cell (i := 4) (v := .bool x.yes) rfl; have m5 := hk9.cell (i := 5) (v := .bool x.near) rfl; have m6 := hk9.cell (i := 6) (v := .slice ka kn kc) rfl; have HK9 := hid hk9; have HB9 := hid hb9; have HR9 := hid (Reads.of_own hrow9); obtain ⟨va, vcp, rfl⟩ := row_slice hrow9; clear hk9 hb9 hrow9)
      | (refine (aimed_any x ka kn kc HR9.out (by omega)).mono ?_; rintro e w10 ⟨rfl, hb10⟩; unfold cdArr; have hk10 := HK9.out.below' hb10; have n0 := hk10.cell (i := 0) (v := .int .i64 x.kind) rfl; have n1 := hk10.cell (i := 1) (v := .int .i64 x.pid) rfl; have n2 := hk10.cell (i := 2) (v := .int .i64 x.epoch) rfl; have n3 := hk10.cell (i := 3) (v := .int .i64 x.parts) rfl; have n4 := hk10.cell (i := 4) (v := .bool x.yes) rfl; have n5 := hk10.cell (i := 5) (v := .bool x.near) rfl; have n6 := hk10.cell (i := 6) (v := .slice ka kn kc) rfl; have g0 := hk10.free 0; have g1 := hk10.free 1; have g2 := hk10.free 2; have g3 := hk10.free 3; have g4 := hk10.free 4; have g5 := hk10.free 5; have g6 := hk10.free 6; have HK10 := hid hk10; have HB10 := hid hb10; clear hk10 hb10))
    all_goals (
      have hbS : Below w.heap.size w (((((((w10.setCell ⟨bx, 0, none⟩ (.int .i64 x.kind)).setCell ⟨bx, 1, none⟩ (.int .i64 x.pid)).setCell ⟨bx, 2, none⟩ (.int .i64 (aimE x C.rows))).setCell ⟨bx, 3, none⟩ (.int .i64 x.parts)).setCell ⟨bx, 4, none⟩ (.bool x.yes)).setCell ⟨bx, 5, none⟩ (.bool x.near)).setCell ⟨bx, 6, none⟩ (.slice ka kn kc)) :=
        (((((((bel_next (bel_next HB1.out (bel_next (Below.refl _ _).drew HB9.out)) HB10.out).setCell (by show _ ≤ bx; omega) _).setCell (by show _ ≤ bx; omega) _).setCell (by show _ ≤ bx; omega) _).setCell (by show _ ≤ bx; omega) _).setCell (by show _ ≤ bx; omega) _).setCell (by show _ ≤ bx; omega) _).setCell (by show _ ≤ bx; omega) _
      have hkS := ((((((HK10.out.set 0 (.int .i64 x.kind)).set 1 (.int .i64 x.pid)).set 2 (.int .i64 (aimE x C.rows))).set 3 (.int .i64 x.parts)).set 4 (.bool x.yes)).set 5 (.bool x.near)).set 6 (.slice ka kn kc)
      go_wp2_with fail
      go_meet
      exact ⟨hbS, hkS⟩)
  case rest =>
    obtain ⟨hbS, hkS⟩ := hcut
    clear HROWS HT1 HB1 HK1 k0 k1 k2 k3 k4 k5 k6 hl8
    unfold cdArr at hkS
    have HBS := hid hbS
    have HTS := hid (HT.out.below hbS)
    have z0 := hkS.cell (i := 0) (v := .int .i64 x.kind) rfl
    have z1 := hkS.cell (i := 1) (v := .int .i64 x.pid) rfl
    have z2 := hkS.cell (i := 2) (v := .int .i64 (aimE x C.rows)) rfl
    have z3 := hkS.cell (i := 3) (v := .int .i64 x.parts) rfl
    have z4 := hkS.cell (i := 4) (v := .bool x.yes) rfl
    clear hbS hkS
    have hkk : x.kind = 0 ∨ x.kind = 1 ∨ x.kind = 2 ∨ x.kind = 3 ∨ x.kind = 4 ∨ x.kind = 5 ∨ x.kind = 6 ∨ x.kind = 7 ∨ x.kind = 8 ∨ x.kind = 9 ∨ x.kind = 10 ∨ (x.kind < 0 ∨ 10 < x.kind) := by omega
    rcases hkk with hk | hk | hk | hk | hk | hk | hk | hk | hk | hk | hk | hk
    · have hr9 := HRR.out
      unfold PCo.does at hr9
      rw [if_pos hk] at hr9
      subst hr9
      rw [hk] at z0
      go_wp2_with fail
      refine (coInit_any (N := N) x.pid HTS.out HTR.out HG.out).mono ?_
      rintro e w2 ⟨rfl, hto⟩
      have HF := hid (TrioTo.after HBS.out hto)
      clear hto HTS HBS
      go_wp2_with fail
      refine ⟨rfl, .tuple #[], by simp [results, Tryz.results23, go_sem], rfl, HF.out⟩
    · have hr9 := HRR.out
      unfold PCo.does at hr9
      rw [if_neg (by omega), if_pos (by omega)] at hr9
      subst hr9
      rw [hk] at z0
      go_wp2_with fail
      refine (coAdd_any (N := N) x.pid (aimE x C.rows) x.parts HTS.out HTR.out HG.out HN.out).mono ?_
      rintro e w2 ⟨rfl, hto⟩
      have HF := hid (TrioTo.after HBS.out hto)
      clear hto HTS HBS
      go_wp2_with fail
      refine ⟨rfl, .tuple #[], by simp [results, Tryz.results23, go_sem], rfl, HF.out⟩
    · have hr9 := HRR.out
      unfold PCo.does at hr9
      rw [if_neg (by omega), if_pos (by omega)] at hr9
      subst hr9
      rw [hk] at z0
      go_wp2_with fail
      refine (coAdd_any (N := N) x.pid (aimE x C.rows) x.parts HTS.out HTR.out HG.out HN.out).mono ?_
      rintro e w2 ⟨rfl, hto⟩
      have HF := hid (TrioTo.after HBS.out hto)
      clear hto HTS HBS
      go_wp2_with fail
      refine ⟨rfl, .tuple #[], by simp [results, Tryz.results23, go_sem], rfl, HF.out⟩
    · have hr9 := HRR.out
      unfold PCo.does at hr9
      rw [if_neg (by omega), if_pos (by omega)] at hr9
      subst hr9
      rw [hk] at z0
      go_wp2_with fail
      refine (coAdd_any (N := N) x.pid (aimE x C.rows) x.parts HTS.out HTR.out HG.out HN.out).mono ?_
      rintro e w2 ⟨rfl, hto⟩
      have HF := hid (TrioTo.after HBS.out hto)
      clear hto HTS HBS
      go_wp2_with fail
      refine ⟨rfl, .tuple #[], by simp [results, Tryz.results23, go_sem], rfl, HF.out⟩
    · have hr9 := HRR.out
      unfold PCo.does at hr9
      rw [if_neg (by omega), if_neg (by omega), if_pos (by omega)] at hr9
      subst hr9
      rw [hk] at z0
      go_wp2_with fail
      refine (coEnd_any (N := N) x.pid (aimE x C.rows) x.yes HTS.out HTR.out HG.out).mono ?_
      rintro e w2 ⟨rfl, hto⟩
      have HF := hid (TrioTo.after HBS.out hto)
      clear hto HTS HBS
      go_wp2_with fail
      refine ⟨rfl, .tuple #[], by simp [results, Tryz.results23, go_sem], rfl, HF.out⟩
    · have hr9 := HRR.out
      unfold PCo.does at hr9
      rw [if_neg (by omega), if_neg (by omega), if_pos (by omega)] at hr9
      subst hr9
      rw [hk] at z0
      go_wp2_with fail
      refine (coEnd_any (N := N) x.pid (aimE x C.rows) x.yes HTS.out HTR.out HG.out).mono ?_
      rintro e w2 ⟨rfl, hto⟩
      have HF := hid (TrioTo.after HBS.out hto)
      clear hto HTS HBS
      go_wp2_with fail
      refine ⟨rfl, .tuple #[], by simp [results, Tryz.results23, go_sem], rfl, HF.out⟩
    · have hr9 := HRR.out
      unfold PCo.does at hr9
      rw [if_neg (by omega), if_neg (by omega), if_neg (by omega), if_pos (by omega)] at hr9
      subst hr9
      rw [hk] at z0
      go_wp2_with fail
      refine (coComplete_any (N := N) x.pid HTS.out HTR.out HG.out).mono ?_
      rintro e w2 ⟨rfl, hto⟩
      have HF := hid (TrioTo.after HBS.out hto)
      clear hto HTS HBS
      go_wp2_with fail
      refine ⟨rfl, .tuple #[], by simp [results, Tryz.results23, go_sem], rfl, HF.out⟩
    · have hr9 := HRR.out
      unfold PCo.does at hr9
      rw [if_neg (by omega), if_neg (by omega), if_neg (by omega), if_pos (by omega)] at hr9
      subst hr9
      rw [hk] at z0
      go_wp2_with fail
      refine (coComplete_any (N := N) x.pid HTS.out HTR.out HG.out).mono ?_
      rintro e w2 ⟨rfl, hto⟩
      have HF := hid (TrioTo.after HBS.out hto)
      clear hto HTS HBS
      go_wp2_with fail
      refine ⟨rfl, .tuple #[], by simp [results, Tryz.results23, go_sem], rfl, HF.out⟩
    · have hr9 := HRR.out
      unfold PCo.does at hr9
      rw [if_neg (by omega), if_neg (by omega), if_neg (by omega), if_neg (by omega), if_pos (by omega)] at hr9
      subst hr9
      rw [hk] at z0
      go_wp2_with fail
      refine (coTick_any HTS.out HTR.out HN.out).mono ?_
      rintro e w2 ⟨v2, rfl, hto, _⟩
      have HF := hid (TrioTo.after HBS.out hto)
      clear hto HTS HBS
      go_wp2_with fail
      refine ⟨rfl, .tuple #[], by simp [results, Tryz.results23, go_sem], rfl, HF.out⟩
    · have hr9 := HRR.out
      unfold PCo.does at hr9
      rw [if_neg (by omega), if_neg (by omega), if_neg (by omega), if_neg (by omega), if_pos (by omega)] at hr9
      subst hr9
      rw [hk] at z0
      go_wp2_with fail
      refine (coTick_any HTS.out HTR.out HN.out).mono ?_
      rintro e w2 ⟨v2, rfl, hto, _⟩
      have HF := hid (TrioTo.after HBS.out hto)
      clear hto HTS HBS
      go_wp2_with fail
      refine ⟨rfl, .tuple #[], by simp [results, Tryz.results23, go_sem], rfl, HF.out⟩
    · have hr9 := HRR.out
      unfold PCo.does at hr9
      rw [if_neg (by omega), if_neg (by omega), if_neg (by omega), if_neg (by omega), if_pos (by omega)] at hr9
      subst hr9
      rw [hk] at z0
      go_wp2_with fail
      refine (coTick_any HTS.out HTR.out HN.out).mono ?_
      rintro e w2 ⟨v2, rfl, hto, _⟩
      have HF := hid (TrioTo.after HBS.out hto)
      clear hto HTS HBS
      go_wp2_with fail
      refine ⟨rfl, .tuple #[], by simp [results, Tryz.results23, go_sem], rfl, HF.out⟩
    · have hr9 := HRR.out
      unfold PCo.does at hr9
      rw [if_neg (by omega), if_neg (by omega), if_neg (by omega), if_neg (by omega), if_neg (by omega)] at hr9
      subst hr9
      have q0 : decide (x.kind = 0) = false := decide_eq_false (by omega)
      have p0 : (x.kind == 0) = false := by simp; omega
      have q1 : decide (x.kind = 1) = false := decide_eq_false (by omega)
      have p1 : (x.kind == 1) = false := by simp; omega
      have q2 : decide (x.kind = 2) = false := decide_eq_false (by omega)
      have p2 : (x.kind == 2) = false := by simp; omega
      have q3 : decide (x.kind = 3) = false := decide_eq_false (by omega)
      have p3 : (x.kind == 3) = false := by simp; omega
      have q4 : decide (x.kind = 4) = false := decide_eq_false (by omega)
      have p4 : (x.kind == 4) = false := by simp; omega
      have q5 : decide (x.kind = 5) = false := decide_eq_false (by omega)
      have p5 : (x.kind == 5) = false := by simp; omega
      have q6 : decide (x.kind = 6) = false := decide_eq_false (by omega)
      have p6 : (x.kind == 6) = false := by simp; omega
      have q7 : decide (x.kind = 7) = false := decide_eq_false (by omega)
      have p7 : (x.kind == 7) = false := by simp; omega
      have q8 : decide (x.kind = 8) = false := decide_eq_false (by omega)
      have p8 : (x.kind == 8) = false := by simp; omega
      have q9 : decide (x.kind = 9) = false := decide_eq_false (by omega)
      have p9 : (x.kind == 9) = false := by simp; omega
      have q10 : decide (x.kind = 10) = false := decide_eq_false (by omega)
      have p10 : (x.kind == 10) = false := by simp; omega
      have HF := hid (TrioTo.of_below HT.out HBS.out)
      clear HTS HBS
      go_wp2_with fail
      refine ⟨rfl, .tuple #[], by simp [results, Tryz.results23, go_sem], rfl, HF.out⟩
end
end Go.Proofs.YtbnefpdjcbegpaaGreatDoor
