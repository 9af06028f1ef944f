/-
  CoordFences: the walk. No conditions but deeds that read.
-/
import Derived.Test.YtbnefpdjcbegpaaGreatDoorHTM
import Derived.Test.YtbnefpdjcbegpaaGreatDoorHRM
import Derived.Deep.DeepCutAuto
set_option maxRecDepth 100000
namespace Go.Proofs.YtbnefpdjcbegpaaGreatDoor
open Go.RowKit

set_option maxHeartbeats 40000000 in
theorem fences_any {w : World} {v : Value} {l : List CDeed} (pid0 epoch parts0 : Int) (yes : Bool) (h : InCDeeds w v l) :
    Calls Tryz.prog 4 #[v, .int .i64 pid0, .int .i64 epoch, .int .i64 parts0, .bool yes] w (AwakePost13 w) := by
  have HI := hid h
  clear h
  go_enter Tryz.func4, Tryz.ntmps4
  go_wp2_with fail
  refine (made13_any HI.out).mono ?_
  rintro e w1 ⟨c, ll, d, S, SL, SD, C, A, D, k, rfl, hm⟩
  have HM := hid hm
  have HPID := hid (lawPid pid0)
  have HPARTS := hid (lawParts parts0)
  have hl8 := hm.room.right.len
  clear hm HI
  go_wp2_with fail
  generalize wrap64 (1 + (wrap64 (pid0.tmod 3 + 3)).tmod 3) = pid at HPID ⊢
  generalize wrap64 (1 + bits BinOp.and IntKind.i64 parts0 4095) = parts at HPARTS ⊢
  refine (coRows_any HM.out.made.trio HM.out.room.right).mono ?_
  rintro e w2 ⟨v2, rfl, hrow2, hb2⟩
  have HAW := hid (HM.out.made.trio.away hrow2)
  have HM2 := hid (HM.out.below hb2)
  obtain ⟨va, vc, rfl⟩ := row_slice hrow2
  clear hb2 hrow2 HM
  go_wp2_with fail
  refine (refRow_any pid (Reads.of_own HAW.out.row) (by omega)).mono ?_
  rintro e w3 ⟨rfl, hb3⟩
  obtain ⟨t, ht⟩ : ∃ t, rowZ C.rows pid = t := ⟨_, rfl⟩
  obtain ⟨cc, hcc⟩ : ∃ cc, rowC C.rows pid = cc := ⟨_, rfl⟩
  rw [ht, hcc]
  unfold PTr.val
  have hbT : Below w3.heap.size w3 (w3.alloc (.cells #[.int .i64 t.pid, .int .i64 t.epoch, .int .i64 t.state, .int .i64 t.parts, .int .i64 t.last] 28)) := bel_alloc (Below.refl _ _) _
  have HM3 := hid ((HM2.out.below hb3).below hbT)
  have HAW3 := hid ((HAW.out.below hb3).below hbT)
  have HT3 := hid ((HM2.out.below hb3).made.trio.awayB (Blk.new w3 #[.int .i64 t.pid, .int .i64 t.epoch, .int .i64 t.state, .int .i64 t.parts, .int .i64 t.last] 28) (Nat.le_refl _))
  have HRD := hid (HM3.out.room.ready (pid := pid) (by have := HPID.out; omega))
  have hp8 : 1 ≤ pid ∧ pid ≤ 8 := by have := HPID.out; omega
  have HP8 := hid hp8
  clear hb3 hbT HM2 HAW hp8
  have t1 := HT3.out.blk.cell (i := 1) (v := .int .i64 t.epoch) rfl
  have t2 := HT3.out.blk.cell (i := 2) (v := .int .i64 t.state) rfl
  have t4 := HT3.out.blk.cell (i := 4) (v := .int .i64 t.last) rfl
  have HT := hid ht
  have HC := hid hcc
  clear ht hcc
  by_cases hc : cc = 0
  · subst hc
    have hE := rowE_some (C := C) (ep := epoch) HC.out
    rw [HT.out] at hE
    by_cases hep : t.epoch = epoch
    · have hb1 : decide (t.epoch = epoch) = true := decide_eq_true hep
      have hb2 : (t.epoch == epoch) = true := by simpa using hep
      clear hep hE
      go_wp2_with fail
      refine (awake13_any _).mono ?_
      rintro e w4 ⟨rfl, hb4⟩
      have HB9 := hid (bel_next HM3.out.made.bel hb4)
      clear hb4
      go_wp2_with fail
      go_ret
      exact ⟨rfl, HB9.out⟩
    · rw [if_pos hep] at hE
      have hb1 : decide (t.epoch = epoch) = false := decide_eq_false hep
      have hb2 : (t.epoch == epoch) = false := by simpa using hep
      have hin := rowZ_in HM3.out.room.right HC.out
      rw [HT.out] at hin
      have hwr : wrap64 (t.epoch - 1) = t.epoch - 1 := IntWalk.wrap64_in _ (by omega)
      have HE := hid hE
      have HADD := hid (add_not (C := C) (D := D) HRD.out HP8.out HPARTS.out (by rw [hE]; decide))
      rw [hE] at HADD
      have HW4 := hid (fun (hy : yes = false) => fence_ways (C := C) (L := A.toP) (D := D) (yes := yes) (kk := 4) HT.out HRD.out hE hwr (by rw [hy]; rfl))
      have HW3 := hid (fun (hy : yes = true) => fence_ways (C := C) (L := A.toP) (D := D) (yes := yes) (kk := 3) HT.out HRD.out hE hwr (by rw [hy]; rfl))
      clear hE hin hwr hep
      go_wp2_with fail
      generalize w3.alloc (.cells #[.int .i64 t.pid, .int .i64 t.epoch, .int .i64 t.state, .int .i64 t.parts, .int .i64 t.last] 28) = w4 at HM3 HAW3 HT3 t1 t2 t4 ⊢
      refine (files_any d SD D 1000 _ HM3.out.made.trio.disk HM3.out.wf).mono ?_
      rintro e w5 ⟨v5, rfl, hrow5, hb5⟩
      have hlen5 := HM3.out.wf.count
      have HAF5 := hid (HM3.out.made.trio.away hrow5)
      have HM5 := hid (HM3.out.below hb5)
      have HAW5 := hid (HAW3.out.below hb5)
      have HT5 := hid (HT3.out.below hb5)
      have t1 := HT5.out.blk.cell (i := 1) (v := .int .i64 t.epoch) rfl
      have t2 := HT5.out.blk.cell (i := 2) (v := .int .i64 t.state) rfl
      have t4 := HT5.out.blk.cell (i := 4) (v := .int .i64 t.last) rfl
      obtain ⟨fa, fc, rfl⟩ := row_slice hrow5
      clear hrow5 hb5 HM3 HAW3 HT3
      cases yes
      all_goals (
        (first | (rcases HW4.out rfl with ⟨hf, e1, e2, s1, s2, l1, l2⟩ | ⟨hf, e1, e2, s1, s2, l1, l2⟩ | ⟨hf, e1, e2, s1, s2⟩ | ⟨hf, e1, e2⟩) | (rcases HW3.out rfl with ⟨hf, e1, e2, s1, s2, l1, l2⟩ | ⟨hf, e1, e2, s1, s2, l1, l2⟩ | ⟨hf, e1, e2, s1, s2⟩ | ⟨hf, e1, e2⟩)))
      all_goals (
        have HFIN := hid hf
        clear hf
        go_wp2_with fail
        refine (coEnd_any (N := 1000) pid epoch _ HM5.out.made.trio HM5.out.room.right (fun _ => HM5.out.room.good)).mono ?_
        rintro e w6 ⟨rfl, hto⟩
        rw [HFIN.out] at hto ⊢
        obtain ⟨S6, SL6, SD6, hm6, haw, hawB⟩ := HM5.out.same hto
        have HM6 := hid hm6
        have HAW6 := hid (haw _ _ _ _ _ _ HAW5.out)
        have HAF6 := hid (haw _ _ _ _ _ _ HAF5.out)
        have hT6 := hawB _ _ _ HT5.out
        clear t1 t2 t4
        have t1 := hT6.blk.cell (i := 1) (v := .int .i64 t.epoch) rfl
        have t2 := hT6.blk.cell (i := 2) (v := .int .i64 t.state) rfl
        have t4 := hT6.blk.cell (i := 4) (v := .int .i64 t.last) rfl
        clear hto hm6 haw hawB hT6 HM5 HAW5 HAF5 HT5 HFIN
        go_wp2_with fail
        refine (coAdd_any (N := 1000) pid epoch parts HM6.out.made.trio HM6.out.room.right (fun _ => HM6.out.room.good) ⟨HM6.out.now0, by have := HM6.out.now1; have := HM6.out.few; omega⟩).mono ?_
        rintro e w7 ⟨rfl, hto⟩
        rw [HADD.out] at hto ⊢
        obtain ⟨S7, SL7, SD7, hm7, haw, _⟩ := HM6.out.same hto
        have HM7 := hid hm7
        have HAW7 := hid (haw _ _ _ _ _ _ HAW6.out)
        have HAF7 := hid (haw _ _ _ _ _ _ HAF6.out)
        clear hto hm7 haw HM6 HAW6 HAF6 t1 t2 t4
        go_wp2_with fail
        refine (coMay_no pid epoch 1 HM7.out.made.trio HM7.out.room.right (by decide) (by rw [HE.out]; decide)).mono ?_
        rintro e w8 ⟨rfl, hb8⟩
        rw [HE.out]
        have HM8 := hid (HM7.out.below hb8)
        have HAW8 := hid (HAW7.out.below hb8)
        have HAF8 := hid (HAF7.out.below hb8)
        clear hb8 HM7 HAW7 HAF7
        go_wp2_with fail
        refine (coRows_any HM8.out.made.trio HM8.out.room.right).mono ?_
        rintro e w9 ⟨v9, rfl, hrow9, hb9⟩
        have HM9 := hid (HM8.out.below hb9)
        have HAW9 := hid (HAW8.out.row)
        have HR9 := hid (own_bel HAW8.out.row hb9)
        have HAF9 := hid (HAF8.out.below hb9)
        have HN9 := hid hrow9
        obtain ⟨na, nc, rfl⟩ := row_slice hrow9
        clear hb9 hrow9 HM8 HAW8 HAF8 HAW9
        go_wp2_with fail
        refine (sameTr_eq (Reads.of_own HN9.out) (Reads.of_own HR9.out) (by omega)).mono ?_
        rintro e w10 ⟨rfl, n10, rfl⟩
        have HM10 := hid (HM9.out.below (bel_drewN _ _ n10))
        have HAF10 := hid (HAF9.out.below (bel_drewN _ _ n10))
        clear HM9 HAF9 HN9 HR9
        generalize w9.drewN n10 = w10 at HM10 HAF10 ⊢
        go_wp2_with fail
        refine (files_any d _ D 1000 _ HM10.out.made.trio.disk HM10.out.wf).mono ?_
        rintro e w11 ⟨v11, rfl, hrow11, hb11⟩
        have HM11 := hid (HM10.out.below hb11)
        have HAF11 := hid (own_bel HAF10.out.row hb11)
        have HN11 := hid hrow11
        obtain ⟨na, nc, rfl⟩ := row_slice hrow11
        clear hb11 hrow11 HM10 HAF10
        go_wp2_with fail
        refine (sameFiles_eq (Reads.of_own HN11.out) (Reads.of_own HAF11.out) (by omega)).mono ?_
        rintro e w12 ⟨rfl, n12, rfl⟩
        have HM12 := hid (HM11.out.below (bel_drewN _ _ n12))
        clear HM11 HAF11 HN11
        generalize w11.drewN n12 = w12 at HM12 ⊢
        go_wp2_with fail
        refine (awake13_any _).mono ?_
        rintro e w13 ⟨rfl, hb13⟩
        have HB9 := hid (bel_next HM12.out.made.bel hb13)
        clear hb13
        go_wp2_with fail
        go_ret
        exact ⟨rfl, HB9.out⟩)
  · have hz1 : (cc != 0) = true := by simpa using hc
    have hz2 : decide (cc = 0) = false := decide_eq_false hc
    have hz3 : (cc == 0) = false := by simpa using hc
    have h3 := (rowE_none (C := C) (pid := pid) (ep := epoch) (by rw [HC.out]; exact hc)).1
    have HE := hid h3
    have HFIN := hid (fin_none (D := D) HRD.out h3 yes)
    have HADD := hid (add_not (D := D) HRD.out HP8.out HPARTS.out (by rw [h3]; decide))
    rw [h3] at HADD
    clear h3 t1 t2 t4 HT3
    go_wp2_with fail
    generalize w3.alloc (.cells #[.int .i64 t.pid, .int .i64 t.epoch, .int .i64 t.state, .int .i64 t.parts, .int .i64 t.last] 28) = w4 at HM3 HAW3 ⊢
    refine (coEnd_any (N := 1000) pid epoch yes HM3.out.made.trio HM3.out.room.right (fun _ => HM3.out.room.good)).mono ?_
    rintro e w5 ⟨rfl, hto⟩
    rw [HFIN.out] at hto ⊢
    obtain ⟨S5, SL5, SD5, hm5, _, _⟩ := HM3.out.same hto
    have HM5 := hid hm5
    clear hto hm5 HM3 HAW3
    go_wp2_with fail
    refine (coAdd_any (N := 1000) pid epoch parts HM5.out.made.trio HM5.out.room.right (fun _ => HM5.out.room.good) ⟨HM5.out.now0, by have := HM5.out.now1; have := HM5.out.few; omega⟩).mono ?_
    rintro e w6 ⟨rfl, hto⟩
    rw [HADD.out] at hto ⊢
    obtain ⟨S6, SL6, SD6, hm6, _, _⟩ := HM5.out.same hto
    have HM6 := hid hm6
    clear hto hm6 HM5
    go_wp2_with fail
    refine (coMay_no pid epoch 0 HM6.out.made.trio HM6.out.room.right (by decide) (by rw [HE.out]; decide)).mono ?_
    rintro e w7 ⟨rfl, hb7⟩
    rw [HE.out]
    have HM7 := hid (HM6.out.below hb7)
    clear hb7 HM6
    go_wp2_with fail
    refine (awake13_any _).mono ?_
    rintro e w8 ⟨rfl, hb8⟩
    have HB9 := hid (bel_next HM7.out.made.bel hb8)
    clear hb8
    go_wp2_with fail
    go_ret
    exact ⟨rfl, HB9.out⟩
end Go.Proofs.YtbnefpdjcbegpaaGreatDoor
