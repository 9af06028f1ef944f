/-
  OffsetsRise: the walk. No conditions but deeds that read.
-/
import Derived.Test.YtjodkcjlipecdaaGreatDoorGZM
set_option maxRecDepth 100000
namespace Go.Proofs.YtjodkcjlipecdaaGreatDoor
open Go.RowKit

/-- Between two rounds of OffsetsRise. -/
def RiseRel (w : World) (pt o ll d : Nat) (v : Value) (q : List OCell) (c : Value) (wr : World) : Prop :=
  ∃ (k : Nat) (O : POff) (A : ALog) (D : PDisk) (S SL SD : Nat → Prop), k ≤ q.length ∧ c = .int .i64 k ∧ OffMade w wr o ll d S SL SD O A.toP D ∧ OGood pt 1000 O A D ∧ D.fuse = -1 ∧
    wr.ownsRow w.heap.size 68 9 v q.length (odsCells q)

set_option maxHeartbeats 40000000 in
theorem rise_any {w : World} {v : Value} {l : List ODeed} (n : Int) (h : InODeeds w v l) : Calls Tryz.prog 5 #[.int .i64 n, v] w (AwakePost11 w) := by
  obtain ⟨pt, hpt⟩ : ∃ pt, fewParts n = pt := ⟨_, rfl⟩
  have hp := fewParts_in n
  rw [hpt] at hp
  have HI := hid h
  have HPT := hid hpt
  clear h hpt
  go_enter Tryz.func5, Tryz.ntmps5
  go_wp2_with fail
  rw [fewParts_wrap, HPT.out]
  refine (fresh_any pt w hp).mono ?_
  rintro e w1 ⟨o, ll, d, S, SL, SD, rfl, ho, hb, hs, hsl, hsd⟩
  have HM := hid (OffMade.mk ho hb hs hsl hsd)
  have HB := hid hb
  clear ho hb hs hsl hsd
  go_wp2_with fail
  refine (few11_any (HI.out.below HB.out)).mono ?_
  rintro e w2 ⟨v1, rfl, ⟨q, hql, hrow, hall⟩, hb2⟩
  have HM2 := hid (HM.out.below hb2)
  have HROW := hid (own_base (base' := w.heap.size) hrow (by have := HB.out.size; omega))
  have HALL : Hid (∀ x ∈ q, (∃ ka kn kc, x.K = .slice ka kn kc) ∧ x.d.fits) := hid (fun x hx => by
    obtain ⟨⟨_, ka, kc, hK, _⟩, hf⟩ := hall x hx
    exact ⟨⟨ka, _, kc, hK⟩, hf⟩)
  obtain ⟨va, vc, rfl⟩ := row_slice hrow
  have hq60 : q.length ≤ 60 := by
    have h9 := congrArg List.length hql
    unfold fewO at h9
    rw [List.length_map, List.length_map, List.length_take] at h9
    omega
  clear hrow hall hb2 HI HM HB hql
  go_wp2_with fail
  go_loopw [7] (fun c wr => RiseRel w pt o ll d (.slice va q.length vc) q c wr) (fun c _ => q.length - (intOf c).toNat)
  case atStart => exact ⟨0, POff.init pt, aO, dO, _, _, _, by omega, rfl, HM2.out, new_good pt, rfl, HROW.out⟩
  case round =>
    clear HM2 HROW
    obtain ⟨k, O, A, D, S, SL, SD, hk, rfl, hm, hg, hfu, hrow⟩ := hrel
    have HM := hid hm
    have HG := hid hg
    have HFU := hid hfu
    have HROW := hid hrow
    have hcl : O.com.length = pt := hg.len
    have hpl : O.pend.length ≤ 4 := by have := hg.ok.few; omega
    clear hm hg hfu hrow
    by_cases hlt : k < q.length
    · obtain ⟨x, hx⟩ : ∃ x, q[k]? = some x := ⟨_, List.getElem?_eq_getElem hlt⟩
      obtain ⟨⟨ka, kn, kc, hK⟩, hfit⟩ := HALL.out x (List.mem_of_getElem? hx)
      obtain ⟨xd, xK⟩ := x
      simp only at hK hfit
      subst hK
      obtain ⟨g, cap, hve, hgl, hcells⟩ := OutODeeds.at HROW.out hx
      injection hve with e1 e2 e3
      subst e1 e3
      have HC := hid hcells
      have HFIT := hid hfit
      have HX := hid hx
      clear hx hcells hfit e2
      have hmeas : q.length - (k + 1) < q.length - k := by omega
      go_wp2_with fail
      refine (committed_any HM.out.offs.off (by omega)).mono ?_
      rintro e w3 ⟨v3, rfl, hrow3, hb3⟩
      rw [hcl] at hrow3
      have HB3 := hid hb3
      have HR3 := hid hrow3
      have HO3 := hid (HM.out.offs.below hb3)
      clear hb3 hrow3
      go_wp2_with fail
      refine (pends_any HO3.out.off hpl).mono ?_
      rintro e w4 ⟨v4, rfl, hrow4, hb4⟩
      have HB4 := hid hb4
      have HR4 := hid hrow4
      have HO4 := hid (HO3.out.below hb4)
      clear hb4 hrow4
      go_wp2_with fail
      refine (genOf_any HO4.out.off).mono ?_
      rintro e w5 ⟨rfl, hb5⟩
      have HB5 := hid (bel_next (bel_next HB3.out HB4.out) hb5)
      have HO5 := hid (HO4.out.below hb5)
      have HR35 := hid (own_bel (own_bel HR3.out HB4.out) hb5)
      have HR45 := hid (own_bel HR4.out hb5)
      have HRD5 := hid (own_bel HROW.out HB5.out)
      have hcl5 : ∀ r u, (odCells xd (.slice ka kn kc))[r]? = some u → w5.cell? ⟨g, k * 9 + r, none⟩ = some u := fun r u hu => (HB5.out.cell (p := ⟨g, k * 9 + r, none⟩) hgl).trans (HC.out r u hu)
      have d0 := hcl5 0 _ rfl
      have d1 := hcl5 1 _ rfl
      have d2 := hcl5 2 _ rfl
      have d3 := hcl5 3 _ rfl
      have d4 := hcl5 4 _ rfl
      have d5 := hcl5 5 _ rfl
      have d6 := hcl5 6 _ rfl
      have d7 := hcl5 7 _ rfl
      have d8 := hcl5 8 _ rfl
      simp only [Nat.add_zero] at d0
      clear hb5 hcl5
      go_wp2_with fail
      refine (does_any (N := 1000) xd ka kn kc HFIT.out HO5.out HG.out.ok (by omega) (fun _ => ⟨HG.out.inv, HG.out.wf⟩) HG.out.ok.com).mono ?_
      rintro e w6 ⟨rfl, hto⟩
      clear d0 d1 d2 d3 d4 d5 d6 d7 d8
      have HR36 := hid (HM.out.offs.past hto HR35.out)
      have HR46 := hid (HO3.out.past hto HR45.out)
      have HRD6 := hid (HO5.out.typed hto HRD5.out (by decide) (by decide) (by decide))
      obtain ⟨S6, SL6, SD6, hm6⟩ := (HM.out.below HB5.out).to hto
      obtain ⟨⟨A6, hA6, hg6, hfu6⟩, hst⟩ := HG.out.does_good hp.2 HFU.out xd
      have hR := hst.rises HG.out.ok
      clear hto hst
      generalize O.does A.toP D xd = r at hm6 hA6 hg6 hfu6 hR
      obtain ⟨O6, L6, D6, c6⟩ := r
      dsimp only at hm6 hA6 hg6 hfu6 hR
      subst hA6
      have hcl6 : O6.com.length = pt := hg6.len
      have HM6 := hid hm6
      have HG6 := hid hg6
      have HFU6 := hid hfu6
      have HR := hid hR
      clear hm6 hg6 hfu6 hR HR35 HR45 HRD5 HO5 HO4 HO3 HR3 HR4 HB3 HB4 HM HROW HC HFU
      go_wp2_with fail
      refine (committed_any HM6.out.offs.off (by omega)).mono ?_
      rintro e w7 ⟨v7, rfl, hrow7, hb7⟩
      rw [hcl6] at hrow7
      have HM7 := hid (HM6.out.below hb7)
      have HR7 := hid hrow7
      have HR37 := hid (own_bel HR36.out hb7)
      have HR47 := hid (own_bel HR46.out hb7)
      have HRD7 := hid (own_bel HRD6.out hb7)
      clear hrow7 hb7 HM6 HR36 HR46 HRD6
      go_wp2_with fail
      refine (genOf_any HM7.out.offs.off).mono ?_
      rintro e w8 ⟨rfl, hb8⟩
      have HM8 := hid (HM7.out.below hb8)
      have HR78 := hid (own_bel HR7.out hb8)
      have HR38 := hid (own_bel HR37.out hb8)
      have HR48 := hid (own_bel HR47.out hb8)
      have HRD8 := hid (own_bel HRD7.out hb8)
      obtain ⟨g3, p3, rfl, hg3, F3⟩ := com_row HR38.out hcl (by omega)
      obtain ⟨g7, p7, rfl, hg7, F7⟩ := com_row HR78.out hcl6 (by omega)
      obtain ⟨a4, p4, rfl⟩ := row_slice HR48.out
      obtain ⟨_, _, hve8, hgl8, hcells8⟩ := OutODeeds.at HRD8.out HX.out
      injection hve8 with e1 _ e3
      subst e3
      injection e1 with e1
      injection e1 with e1 _ _
      subst e1
      have HF3 := hid F3
      have HF7 := hid F7
      have HC8 := hid hcells8
      have hgen : decide (O6.gen < O.gen) = false := decide_eq_false (by have := HR.out.gen; omega)
      have hnx : decide (O6.next < O.next) = false := decide_eq_false (by have := HR.out.next; omega)
      clear hb8 HM7 HR7 HR37 HR47 HRD7 F3 F7 hcells8
      go_wp2_with fail
      clear hgen hnx
      go_loopw [15] (fun c wz => ∃ p : Nat, p ≤ pt ∧ c = .int .i64 p ∧ Below w8.heap.size w8 wz) (fun c _ => pt - (intOf c).toNat)
      case atStart => exact ⟨0, by omega, rfl, Below.refl _ _⟩
      case round =>
        obtain ⟨p, hpp, rfl, hbz⟩ := hrel
        have HBZ := hid hbz
        clear hbz
        by_cases hlp : p < pt
        · have z3 := (HBZ.out.cell (p := ⟨g3, p, none⟩) hg3).trans (HF3.out p hlp)
          have z7 := (HBZ.out.cell (p := ⟨g7, p, none⟩) hg7).trans (HF7.out p hlp)
          by_cases hq : O6.at p = O.at p
          · have hd : decide (O6.at p = O.at p) = true := decide_eq_true hq
            go_wp2_with fail
            go_quiet (fail)
            go_wp2_with fail
            go_roundw
            case rel => exact ⟨p + 1, by omega, by go_num, bel_next HBZ.out (bel_drewN _ _ _)⟩
            case measure => simp [intOf]; omega
          · have hd : decide (O6.at p = O.at p) = false := decide_eq_false hq
            go_wp2_with fail
            go_quiet (fail)
            go_wp2_with fail
            have HBQ := hid (bel_next HBZ.out (bel_drewN wr.heap.size wr nq))
            clear z3 z7 hd
            generalize wr.drewN nq = wq at HBQ ⊢
            have hqb : (O6.at (p : Int) == O.at (p : Int)) = false := by simp [hq]
            simp only [hqb]
            have HQ := hid hq
            clear hq hqb
            obtain ⟨f, hf⟩ : ∃ f : PPend → Bool, f = fun y => y.part == (p : Int) && y.off == O6.at p && y.pid == xd.a := ⟨_, rfl⟩
            have HF := hid hf
            clear hf
            go_loopw [17, 16] (fun c b wy => ∃ j : Nat, j ≤ O.pend.length ∧ c = .int .i64 j ∧ b = .bool ((O.pend.take j).any f) ∧ Below w8.heap.size w8 wy) (fun c _ _ => O.pend.length - (intOf c).toNat)
            case atStart => exact ⟨0, by omega, rfl, rfl, HBQ.out⟩
            case round =>
              obtain ⟨j, hj, rfl, rfl, hby⟩ := hrel
              have HBY := hid hby
              clear hby
              have z7 := (HBY.out.cell (p := ⟨g7, p, none⟩) hg7).trans (HF7.out p hlp)
              by_cases hjl : j < O.pend.length
              · obtain ⟨y, hy⟩ : ∃ y, O.pend[j]? = some y := ⟨_, List.getElem?_eq_getElem hjl⟩
                have hstep : (O.pend.take (j + 1)).any f = ((O.pend.take j).any f || f y) := by rw [List.take_add_one, hy]; simp
                obtain ⟨g4, _, hv4, hg4, k0, k2, k3⟩ := pend_row HR48.out hy
                injection hv4 with e1 _ e3
                subst e1 e3
                have y0 := (HBY.out.cell (p := ⟨g4, j * 4, none⟩) hg4).trans k0
                have y2 := (HBY.out.cell (p := ⟨g4, j * 4 + 2, none⟩) hg4).trans k2
                have y3 := (HBY.out.cell (p := ⟨g4, j * 4 + 3, none⟩) hg4).trans k3
                have x1 := (HBY.out.cell (p := ⟨g, k * 9 + 1, none⟩) hgl8).trans (HC8.out 1 _ rfl)
                have HST := hid hstep
                clear hy hstep k0 k2 k3
                obtain ⟨b0, hb0⟩ : ∃ b, (O.pend.take j).any f = b := ⟨_, rfl⟩
                rw [hb0]
                have HB0 := hid hb0
                clear hb0
                cases b0 with
                | true =>
                  go_wp2_with fail
                  refine wp_region_lex (fun w' => w'.cell? ⟨g4, j * 4, none⟩ = some (.int .i64 y.pid) ∧ w'.cell? ⟨g4, j * 4 + 2, none⟩ = some (.int .i64 y.part) ∧ w'.cell? ⟨g4, j * 4 + 3, none⟩ = some (.int .i64 y.off) ∧ w'.cell? ⟨g7, p, none⟩ = some (.int .i64 (O6.at p)) ∧ w'.cell? ⟨g, k * 9 + 1, none⟩ = some (.int .i64 xd.a)) [] (by kernel_rfl) (by kernel_rfl) (fun _ _ _ _ _ h => h) (by go_keep) (fun hHeld => ?_)
                  iterate 2
                    refine lex_take (v := ?_) (by kernel_rfl) (by kernel_rfl) ?_ ?_
                    rotate_left
                    focus
                      intro w' hSw
                      try dsimp only at hSw
                      go_simp <;> with_reducible rfl
                    simp only [Act.put, List.setIfInBounds_toArray, List.set_cons_zero, List.set_cons_succ]
                  iterate 32
                    refine lex_skip (by kernel_rfl) ?_
                    simp only [Act.put, List.setIfInBounds_toArray, List.set_cons_zero, List.set_cons_succ]
                  iterate 2
                    refine lex_take (v := ?_) (by kernel_rfl) (by kernel_rfl) ?_ ?_
                    rotate_left
                    focus
                      intro w' hSw
                      try dsimp only at hSw
                      go_simp <;> with_reducible rfl
                    simp only [Act.put, List.setIfInBounds_toArray, List.set_cons_zero, List.set_cons_succ]
                  refine lex_nil ?_
                  go_wp2_with fail
                  go_roundw
                  case rel => exact ⟨j + 1, by omega, by go_num, by rw [HST.out, HB0.out, HF.out]; rfl, HBY.out.drew⟩
                  case measure => simp [intOf]; omega
                | false =>
                  by_cases h1 : y.part = (p : Int)
                  · have hd1 : decide (y.part = (p : Int)) = true := decide_eq_true h1; have hb1 : (y.part == (p : Int)) = true := by simp [h1]
                    by_cases h2 : y.off = O6.at p
                    · have hd2 : decide (y.off = O6.at p) = true := decide_eq_true h2; have hb2 : (y.off == O6.at p) = true := by simp [h2]
                      by_cases h3 : y.pid = xd.a
                      · have hd3 : decide (y.pid = xd.a) = true := decide_eq_true h3; have hb3 : (y.pid == xd.a) = true := by simp [h3]
                        go_wp2_with fail
                        refine wp_region_lex (fun w' => w'.cell? ⟨g4, j * 4, none⟩ = some (.int .i64 y.pid) ∧ w'.cell? ⟨g4, j * 4 + 2, none⟩ = some (.int .i64 y.part) ∧ w'.cell? ⟨g4, j * 4 + 3, none⟩ = some (.int .i64 y.off) ∧ w'.cell? ⟨g7, p, none⟩ = some (.int .i64 (O6.at p)) ∧ w'.cell? ⟨g, k * 9 + 1, none⟩ = some (.int .i64 xd.a)) [] (by kernel_rfl) (by kernel_rfl) (fun _ _ _ _ _ h => h) (by go_keep) (fun hHeld => ?_)
                        iterate 36
                          refine lex_take (v := ?_) (by kernel_rfl) (by kernel_rfl) ?_ ?_
                          rotate_left
                          focus
                            intro w' hSw
                            try dsimp only at hSw
                            go_simp <;> with_reducible rfl
                          simp only [Act.put, List.setIfInBounds_toArray, List.set_cons_zero, List.set_cons_succ]
                        refine lex_nil ?_
                        go_wp2_with fail
                        go_roundw
                        case rel => exact ⟨j + 1, by omega, by go_num, by rw [HST.out, HB0.out, HF.out]; simp [h1, h2, h3], HBY.out.drew⟩
                        case measure => simp [intOf]; omega
                      · have hd3 : decide (y.pid = xd.a) = false := decide_eq_false h3; have hb3 : (y.pid == xd.a) = false := by simp [h3]
                        go_wp2_with fail
                        refine wp_region_lex (fun w' => w'.cell? ⟨g4, j * 4, none⟩ = some (.int .i64 y.pid) ∧ w'.cell? ⟨g4, j * 4 + 2, none⟩ = some (.int .i64 y.part) ∧ w'.cell? ⟨g4, j * 4 + 3, none⟩ = some (.int .i64 y.off) ∧ w'.cell? ⟨g7, p, none⟩ = some (.int .i64 (O6.at p)) ∧ w'.cell? ⟨g, k * 9 + 1, none⟩ = some (.int .i64 xd.a)) [] (by kernel_rfl) (by kernel_rfl) (fun _ _ _ _ _ h => h) (by go_keep) (fun hHeld => ?_)
                        iterate 36
                          refine lex_take (v := ?_) (by kernel_rfl) (by kernel_rfl) ?_ ?_
                          rotate_left
                          focus
                            intro w' hSw
                            try dsimp only at hSw
                            go_simp <;> with_reducible rfl
                          simp only [Act.put, List.setIfInBounds_toArray, List.set_cons_zero, List.set_cons_succ]
                        refine lex_nil ?_
                        go_wp2_with fail
                        go_roundw
                        case rel => exact ⟨j + 1, by omega, by go_num, by rw [HST.out, HB0.out, HF.out]; simp [h1, h2, h3], HBY.out.drew⟩
                        case measure => simp [intOf]; omega
                    · have hd2 : decide (y.off = O6.at p) = false := decide_eq_false h2; have hb2 : (y.off == O6.at p) = false := by simp [h2]
                      go_wp2_with fail
                      refine wp_region_lex (fun w' => w'.cell? ⟨g4, j * 4, none⟩ = some (.int .i64 y.pid) ∧ w'.cell? ⟨g4, j * 4 + 2, none⟩ = some (.int .i64 y.part) ∧ w'.cell? ⟨g4, j * 4 + 3, none⟩ = some (.int .i64 y.off) ∧ w'.cell? ⟨g7, p, none⟩ = some (.int .i64 (O6.at p)) ∧ w'.cell? ⟨g, k * 9 + 1, none⟩ = some (.int .i64 xd.a)) [] (by kernel_rfl) (by kernel_rfl) (fun _ _ _ _ _ h => h) (by go_keep) (fun hHeld => ?_)
                      iterate 22
                        refine lex_take (v := ?_) (by kernel_rfl) (by kernel_rfl) ?_ ?_
                        rotate_left
                        focus
                          intro w' hSw
                          try dsimp only at hSw
                          go_simp <;> with_reducible rfl
                        simp only [Act.put, List.setIfInBounds_toArray, List.set_cons_zero, List.set_cons_succ]
                      iterate 11
                        refine lex_skip (by kernel_rfl) ?_
                        simp only [Act.put, List.setIfInBounds_toArray, List.set_cons_zero, List.set_cons_succ]
                      iterate 3
                        refine lex_take (v := ?_) (by kernel_rfl) (by kernel_rfl) ?_ ?_
                        rotate_left
                        focus
                          intro w' hSw
                          try dsimp only at hSw
                          go_simp <;> with_reducible rfl
                        simp only [Act.put, List.setIfInBounds_toArray, List.set_cons_zero, List.set_cons_succ]
                      refine lex_nil ?_
                      go_wp2_with fail
                      go_roundw
                      case rel => exact ⟨j + 1, by omega, by go_num, by rw [HST.out, HB0.out, HF.out]; simp [h1, h2], HBY.out.drew⟩
                      case measure => simp [intOf]; omega
                  · have hd1 : decide (y.part = (p : Int)) = false := decide_eq_false h1; have hb1 : (y.part == (p : Int)) = false := by simp [h1]
                    go_wp2_with fail
                    refine wp_region_lex (fun w' => w'.cell? ⟨g4, j * 4, none⟩ = some (.int .i64 y.pid) ∧ w'.cell? ⟨g4, j * 4 + 2, none⟩ = some (.int .i64 y.part) ∧ w'.cell? ⟨g4, j * 4 + 3, none⟩ = some (.int .i64 y.off) ∧ w'.cell? ⟨g7, p, none⟩ = some (.int .i64 (O6.at p)) ∧ w'.cell? ⟨g, k * 9 + 1, none⟩ = some (.int .i64 xd.a)) [] (by kernel_rfl) (by kernel_rfl) (fun _ _ _ _ _ h => h) (by go_keep) (fun hHeld => ?_)
                    iterate 10
                      refine lex_take (v := ?_) (by kernel_rfl) (by kernel_rfl) ?_ ?_
                      rotate_left
                      focus
                        intro w' hSw
                        try dsimp only at hSw
                        go_simp <;> with_reducible rfl
                      simp only [Act.put, List.setIfInBounds_toArray, List.set_cons_zero, List.set_cons_succ]
                    iterate 10
                      refine lex_skip (by kernel_rfl) ?_
                      simp only [Act.put, List.setIfInBounds_toArray, List.set_cons_zero, List.set_cons_succ]
                    iterate 2
                      refine lex_take (v := ?_) (by kernel_rfl) (by kernel_rfl) ?_ ?_
                      rotate_left
                      focus
                        intro w' hSw
                        try dsimp only at hSw
                        go_simp <;> with_reducible rfl
                      simp only [Act.put, List.setIfInBounds_toArray, List.set_cons_zero, List.set_cons_succ]
                    iterate 11
                      refine lex_skip (by kernel_rfl) ?_
                      simp only [Act.put, List.setIfInBounds_toArray, List.set_cons_zero, List.set_cons_succ]
                    iterate 3
                      refine lex_take (v := ?_) (by kernel_rfl) (by kernel_rfl) ?_ ?_
                      rotate_left
                      focus
                        intro w' hSw
                        try dsimp only at hSw
                        go_simp <;> with_reducible rfl
                      simp only [Act.put, List.setIfInBounds_toArray, List.set_cons_zero, List.set_cons_succ]
                    refine lex_nil ?_
                    go_wp2_with fail
                    go_roundw
                    case rel => exact ⟨j + 1, by omega, by go_num, by rw [HST.out, HB0.out, HF.out]; simp [h1], HBY.out.drew⟩
                    case measure => simp [intOf]; omega
              · obtain rfl : j = O.pend.length := by omega
                obtain ⟨hkd, hys, y, hym, e1, e2, e3⟩ := HR.out.moved p ⟨by omega, by omega⟩ (fun e => HQ.out e.symm)
                have hany : (O.pend.take O.pend.length).any f = true := by
                  rw [List.take_length, List.any_eq_true]
                  exact ⟨y, hym, by rw [HF.out]; simp [e1, e2, e3]⟩
                rw [hany]
                have z3 := (HBY.out.cell (p := ⟨g3, p, none⟩) hg3).trans (HF3.out p hlp)
                have x0 := (HBY.out.cell (p := ⟨g, k * 9 + 0, none⟩) hgl8).trans (HC8.out 0 _ rfl)
                have x6 := (HBY.out.cell (p := ⟨g, k * 9 + 6, none⟩) hgl8).trans (HC8.out 6 _ rfl)
                simp only [Nat.add_zero] at x0
                rw [hys] at x6
                have hnl : decide (O6.at p < O.at p) = false := decide_eq_false (by have := HR.out.rise p ⟨by omega, by omega⟩; omega)
                clear hym e1 e2 e3 hany
                rcases hkd with hkd | hkd
                all_goals
                  rw [hkd] at x0
                  go_wp2_with fail
                  go_quiet (fail)
                  go_wp2_with fail
                  go_roundw
                  case rel => exact ⟨p + 1, by omega, by go_num, bel_next HBY.out (bel_drewN _ _ _)⟩
                  case measure => simp [intOf]; omega
        · obtain rfl : p = pt := by omega
          have HM9 := hid (HM8.out.below HBZ.out)
          have HRD9 := hid (own_bel HRD8.out HBZ.out)
          go_wp2_with fail
          go_roundw
          case rel => exact ⟨k + 1, O6, A6, D6, S6, SL6, SD6, by omega, by go_num, HM9.out, HG6.out, HFU6.out, HRD9.out⟩
          case measure => simp [intOf]; omega
    · obtain rfl : k = q.length := by omega
      go_wp2_with fail
      refine (awake11_any _).mono ?_
      rintro e w9 ⟨rfl, hb9⟩
      have HB9 := hid (bel_next HM.out.bel hb9)
      clear hb9
      go_wp2_with fail
      go_ret
      exact ⟨rfl, HB9.out⟩
end Go.Proofs.YtjodkcjlipecdaaGreatDoor
