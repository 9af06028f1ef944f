/-
  LogFull: the walk. No conditions but deeds that read.
-/
import Derived.Test.YtnibpknhpjcamaaGreatDoorFullPM
set_option maxRecDepth 100000
namespace Go.Proofs.YtnibpknhpjcamaaGreatDoor
open Go.RowKit

/-- Between two rounds of LogFull. -/
def FullRel (w : World) (xb ll d : Nat) (txt : List UInt8) (N : Int) (c av : Value) (wr : World) : Prop :=
  ∃ (k : Nat) (A : ALog) (D : PDisk) (S SD : Nat → Prop) (v1 : Value), k ≤ 300 ∧ c = .int .i64 k ∧ v1 = av ∧ LogIn w wr ll d S SD A.toP D ∧ Fine A D (50 + k) N ∧
    wr.ownsRow w.heap.size 37 3 v1 A.all.length (entCells A.all) ∧ Blk wr xb #[.int .i64 1, .string (bs txt)] 58

set_option maxHeartbeats 4000000 in
theorem full_any {w : World} {v : Value} {l : List PDeed} (size n : Int) (s : ByteArray) (h : InDeeds w v l) (hs : s.size ≤ maxLen) : Calls Tryz.prog 6 #[.int .i64 size, v, .agg #[.int .i64 n, .string s]] w (AwakePost w) := by
  obtain ⟨i0, hi, hz0, hz1, hz2⟩ := info_parts Tryz.infoEntry
  unfold maxLen at hs
  obtain ⟨A, hA⟩ := madeL_is size l
  have HA := hid hA
  have HI := hid h
  clear hA h
  go_enter Tryz.func6, Tryz.ntmps6
  go_wp2_with fail
  have hba : Below w.heap.size w (w.alloc (.cells #[.int .i64 n, .string s] 58)) := bel_alloc (Below.refl _ _) _
  refine (made_any size (HI.out.below hba)).mono ?_
  rintro e w1 ⟨ll, d, av, S, SD, rfl, hlog, hd, hrow, hS, hSD, hb⟩
  have hbx := (Blk.new w #[.int .i64 n, .string s] 58).below' hb
  simp only [World.size_alloc] at hS hSD hrow hb
  generalize madeL size l = r at HA hlog hd hrow
  obtain ⟨r1, D, acc⟩ := r
  have hfine := HA.out.fine
  obtain ⟨e1, _, hnm, e2, _⟩ := HA.out
  dsimp only at e1 e2 hlog hd hrow hfine
  subst e1 e2
  clear HA HI
  unfold ptr
  have HLI : Hid (LogIn w w1 ll d S SD A.toP D) := hid ⟨hlog, hd, fun i hi => by have := hS i hi; omega, fun i hi => by have := hSD i hi; omega, hba.trans (hb.mono (by omega))⟩
  have HS : Hid ((∀ i, S i → ¬ i = w.heap.size) ∧ (∀ i, SD i → ¬ i = w.heap.size)) := hid ⟨fun i hi => by have := hS i hi; omega, fun i hi => by have := hSD i hi; omega⟩
  have HROW := hid hrow
  have HFINE := hid hfine
  have hrn : av.ownBlock ≠ some w.heap.size := fun e => by have := (hrow.lt _ e).1; omega
  have HRN := hid hrn
  have hx1 := hbx.lt
  clear hlog hd hrow hS hSD hb hba hnm hfine hrn
  generalize hN : madeRoom size = N at HFINE
  clear hN
  have HBX := hid hbx
  have c0 := hbx.cell (i := 0) (v := .int .i64 n) rfl
  have c1 := hbx.cell (i := 1) (v := .string s) rfl
  have z0 := hbx.free 0
  have z1 := hbx.free 1
  generalize hxb : w.heap.size = xb at c0 c1 z0 z1 hx1 HBX ⊢
  have HXB := hid hxb
  clear hbx hxb
  have hcut : ∃ (W : World) (txt : List UInt8), txt.length ≤ 1500 ∧ Blk W xb #[.int .i64 1, .string (bs txt)] 58 ∧ Fr (fun k => k = xb) w1 W ∧
      ((decide (1500 < (s.size : Int)) = true ∧ (1500 ≤ s.size) ∧ W = (w1.setCell ⟨xb, 0, none⟩ (.int .i64 1)).setCell ⟨xb, 1, none⟩ (.string (s.extract 0 1500))) ∨ (decide (1500 < (s.size : Int)) = false ∧ W = w1.setCell ⟨xb, 0, none⟩ (.int .i64 1))) := by
    have hfr : Fr (fun k => k = xb) w1 (w1.setCell ⟨xb, 0, none⟩ (.int .i64 1)) := Fr.setCell (S := fun k => k = xb) (p := ⟨xb, 0, none⟩) (Fr.refl _ _) (.inl rfl) _
    by_cases hlt : 1500 < (s.size : Int)
    · refine ⟨_, (tl s).take 1500, by rw [List.length_take]; omega, ?_, hfr.setCell (p := ⟨xb, 1, none⟩) (.inl rfl) _, .inl ⟨decide_eq_true hlt, by omega, rfl⟩⟩
      rw [extract_take]
      exact (HBX.out.set 0 _).set 1 _
    · refine ⟨_, tl s, ?_, ?_, hfr, .inr ⟨decide_eq_false hlt, rfl⟩⟩
      · show s.data.toList.length ≤ 1500
        have : s.data.toList.length = s.size := Array.length_toList
        omega
      · rw [bs_tl]
        exact HBX.out.set 0 _
  obtain ⟨W, txt, htx, hbw, hfr, hways⟩ := hcut
  have HBW := hid hbw
  have HFR := hid hfr
  clear hbw hfr
  rcases hways with ⟨hlt, hle, hW⟩ | ⟨hlt, hW⟩
  all_goals
    have HW := hid hW
    clear hW
    go_wp2_with fail
    rw [← HW.out]
    have HLI2 : Hid (LogIn w W ll d S SD A.toP D) := hid (by
      have h9 := HLI.out
      refine ⟨h9.log.fr HFR.out (fun i hi e => HS.out.1 i hi (e.trans HXB.out.symm)), h9.disk.fr HFR.out (fun i hi e => HS.out.2 i hi (e.trans HXB.out.symm)), h9.s, h9.sd, h9.bel.trans (HFR.out.to_below h9.bel.size (fun i hi e => by rw [e] at hi; have := HXB.out; omega))⟩)
    have HROW2 := hid (own_base (base' := w.heap.size) (row_fr HROW.out HFR.out (fun i hi e => HRN.out (by rw [hi, e, HXB.out]))) (by omega))
    clear HW HFR HLI HROW HBX c0 c1 z0 z1
    go_loopw [11, 9] (fun c av wr => FullRel w xb ll d txt N c av wr) (fun c _ _ => 300 - (intOf c).toNat)
    case atStart => exact ⟨0, A, D, S, SD, _, by omega, rfl, rfl, HLI2.out, HFINE.out, HROW2.out, HBW.out⟩
    case round =>
      clear HLI2 HROW2 HFINE HBW HS HRN
      obtain ⟨k, A, D, S, SD, v1, hk, rfl, rfl, hli, hfine, hrow, hbx⟩ := hrel
      have HLI := hid hli
      have HFINE := hid hfine
      have HROW := hid hrow
      have HBX := hid hbx
      have hx2 := hbx.lt
      clear hli hfine hrow
      by_cases hlt : k < 300
      · have hlt' : decide ((k : Int) < 300) = true := by simp; omega
        clear hbx
        go_wp2_with fail
        refine (free_any d SD D _ HLI.out.disk).mono ?_
        rintro e w' ⟨rfl, rfl⟩
        go_wp2_with fail
        refine (files_any d SD D _ _ HLI.out.disk HFINE.out.disk).mono ?_
        rintro e w3 ⟨v3, rfl, hrow3, hb3⟩
        obtain ⟨fa, fc, rfl⟩ := row_slice hrow3
        have hbx3 := HBX.out.below' hb3
        have hlen3 := HFINE.out.disk.count
        have HB3 := hid hb3
        have hx3 := hbx3.lt
        have c0 := hbx3.cell (i := 0) (v := .int .i64 1) rfl
        have c1 := hbx3.cell (i := 1) (v := .string (bs txt)) rfl
        have HBX3 := hid hbx3
        clear hrow3 hb3 hbx3
        go_wp2_with fail
        have hit : Reads (w3.alloc (.cells #[.int .i64 1, .string (bs txt)] 58)) (.slice (some ⟨w3.heap.size, 0, none⟩) 1 1) ([⟨1, txt⟩] : List PItem).length 2 (itemCells [⟨1, txt⟩]) := by
          refine ⟨rfl, _, _, rfl, fun j u hj => ⟨_, rfl, ?_⟩⟩
          have h := cells_new w3 (itemCells [⟨1, txt⟩]) 58 j u hj
          have e : (⟨w3.heap.size, 0, none⟩ : Addr).add j = ⟨w3.heap.size, j, none⟩ := by
            cases j with
            | zero => simp [Addr.add]
            | succ j => simp [Addr.add]
          rw [e] at h
          exact h
        have hba := bel_alloc (Below.refl w3.heap.size w3) (.cells #[.int .i64 1, .string (bs txt)] 58)
        have hli3 := (HLI.out.below HB3.out).below hba
        have hbx4 := HBX3.out.below' hba
        have hrow4 := own_bel (own_bel HROW.out HB3.out) hba
        have HIT := hid hit
        have HLI4 := hid hli3
        have HBX4 := hid hbx4
        have HROW4 := hid hrow4
        clear hit hba hli3 hbx4 hrow4 c0 c1 HBX3 HB3
        generalize w3.alloc (.cells #[.int .i64 1, .string (bs txt)] 58) = w4 at HIT HLI4 HBX4 HROW4 ⊢
        generalize (Value.slice (some ⟨w3.heap.size, 0, none⟩) 1 1) = iv at HIT ⊢
        refine (append_all (N := N) iv [⟨1, txt⟩] HLI4.out.log HLI4.out.disk HFINE.out.disk (HFINE.out.wf (by omega)) HIT.out (by simp) (fun y hy => by simp at hy; subst hy; show txt.length ≤ _; omega)).mono ?_
        rintro e w5 ⟨rfl, hto⟩
        rw [toP_append] at hto ⊢
        dsimp only at hto ⊢
        obtain ⟨⟨S5, SD5, hli5⟩, hkp⟩ := HLI4.out.call hto
        have hfine5 := (HFINE.out.append (its := [⟨1, txt⟩]) (by simp)).1
        have hone := HFINE.out.one (by omega) txt htx
        have hrow5 := hkp.row HROW4.out (by decide) (by decide) (by decide) (by decide) (by decide)
        have hbx5 := hkp.blk HBX4.out (by decide) (by decide) (by decide) (by decide) (by decide)
        clear hto hkp HLI4 HBX4 HROW4 HIT HLI HROW HBX
        generalize A.append D [⟨1, txt⟩] = ap at hli5 hfine5 hone ⊢
        obtain ⟨A5, D5, rn, re⟩ := ap
        dsimp only at hli5 hfine5 hone ⊢
        have HLI5 := hid hli5
        have HFINE5 := hid hfine5
        have HROW5 := hid hrow5
        have HBX5 := hid hbx5
        have hx5 := hbx5.lt
        clear hli5 hfine5 hrow5
        rcases hone with ⟨rfl, rfl, h3, h4⟩ | ⟨rfl, rfl, h3, h4, h5, h6⟩
        · have H3 := hid h3
          have hnx : A5.toP.next = A.next + 1 := h4
          have hnb := HFINE.out.good.next
          have hn0 : 0 ≤ A.next := by have h1 := HFINE.out.good.inv.sure_le; have h2 := HFINE.out.good.inv.first; omega
          have c1 := hbx5.cell (i := 1) (v := .string (bs txt)) rfl
          clear h3 h4 hbx5
          have hal := HFINE.out.len
          go_wp2_with fail
          refine (next_any HLI5.out.log).mono ?_
          rintro e w' ⟨rfl, rfl⟩
          rw [hnx]
          clear hnx
          go_wp2_with (at_builtin; refine wpList_append_own _ rfl _ _ 25 rfl w.heap.size 37 i0 (.agg #[.int .i64 0, .int .i64 0, .string ⟨#[]⟩]) 3 32 Tryz.underlying25 hi hz0 hz1 hz2 rfl (by decide) _ _ _ rfl (HROW5.out.alloc _) ⟨w5.heap.size, 0, none⟩ 1 1 [.int .i64 A.next, .int .i64 1, .string (bs txt)] rfl rfl ?c1 ?c2 ?c3 ?c4 ?c5 ?_)
          case c1 => exact cells_new _ _ _
          case c2 => simp [Value.oneCell']
          case c3 => unfold maxLen; omega
          case c4 => omega
          case c5 => have := HLI5.out.bel.size; simp; omega
          intro v' w6 hown6 hgrow _
          obtain ⟨hli6, hkb⟩ := HLI5.out.grown (bel_alloc (Below.refl _ _) _) HROW5.out (Nat.le_refl _) (by decide) (by decide) (by decide) (by decide) (by decide) hgrow
          have HLI6 := hid hli6
          have HOWN6 := hid hown6
          have HBX6 := hid (hkb HBX5.out (by decide))
          clear hown6 hgrow hli6 hkb
          go_wp2_with fail
          go_roundw
          case rel =>
            refine ⟨k + 1, A5, D5, S5, SD5, v', by omega, by go_num, rfl, HLI6.out, HFINE5.out, ?_, HBX6.out⟩
            rw [H3.out, entCells_app2, List.length_append]
            exact HOWN6.out
          case measure => simp [intOf]; omega
        · have hnl : A5.all.length ≤ 3000 := by have := HFINE5.out.len; omega
          obtain ⟨hc1, hc2⟩ := HFINE5.out.good.inv.all_chain
          have HC := hid (And.intro hc1 hc2)
          have H3 := hid h3
          have H5 := hid h5
          have H6 := hid h6
          have HG := HFINE5.out.good
          have HG := hid HG
          clear hbx5 h3 h4 h5 h6 hc1 hc2
          go_wp2_with fail
          refine (every_any 32 A5.all HLI5.out.log HLI5.out.disk HFINE5.out.disk (HFINE5.out.wf (by omega)) (fun o => HG.out.inv.fetch_pos HFINE5.out.disk HG.out.off o) ⟨by decide, by decide⟩ HC.out.1 HC.out.2 (by omega) (every_spec HG.out.inv HFINE5.out.disk HG.out.off HG.out.e ⟨by decide, by decide⟩).1).mono ?_
          rintro e w6 ⟨v2, rfl, hrow2, hb2⟩
          have HROW2 := hid hrow2
          have HR2 := hid (own_bel HROW5.out hb2)
          have HLI6 := hid (HLI5.out.below hb2)
          clear hrow2 hb2
          go_wp2_with fail
          refine (same_yes (l := A5.all) (Reads.of_own HROW2.out) (by rw [H3.out]; exact Reads.of_own HR2.out) (by omega)).mono ?_
          rintro e w7 ⟨rfl, nn, rfl⟩
          have HLI7 := hid (HLI6.out.below (bel_drewN w6.heap.size w6 nn))
          clear HLI6 HROW2 HR2
          generalize w6.drewN nn = w7 at HLI7 ⊢
          go_wp2_with fail
          refine (broken_any HLI7.out.log).mono ?_
          rintro e w' ⟨rfl, rfl⟩
          have he0 : A5.toP.e = 0 := HG.out.e
          rw [he0]
          clear he0
          go_wp2_with fail
          refine (free_any d SD5 D5 _ HLI7.out.disk).mono ?_
          rintro e w' ⟨rfl, rfl⟩
          rw [H5.out]
          go_wp2_with fail
          refine (files_any d SD5 D5 _ _ HLI7.out.disk HFINE5.out.disk).mono ?_
          rintro e w8 ⟨v8, rfl, hrow8, hb8⟩
          rw [H6.out] at hrow8
          obtain ⟨ga, gc, rfl⟩ := row_slice hrow8
          have HLI8 := hid (HLI7.out.below hb8)
          clear hrow8 hb8
          go_wp2_with fail
          refine (logSync_any HLI8.out.log HLI8.out.disk HFINE5.out.disk (HFINE5.out.wf (by omega))).mono ?_
          rintro e w9 ⟨rfl, hto⟩
          rw [toP_sync] at hto ⊢
          dsimp only at hto ⊢
          obtain ⟨s1, s2, s3, s4, s5, s6⟩ := HG.out.sync HFINE5.out.disk
          obtain ⟨⟨S9, SD9, hli9⟩, _⟩ := HLI8.out.call hto
          rw [s6]
          have HLI9 := hid hli9
          have hsn : (A5.sync D5).1.toP.sure = (A5.sync D5).1.toP.next := by show (A5.sync D5).1.sure = (A5.sync D5).1.next; rw [s5, s4]
          have HSN := hid hsn
          clear hto hli9 s1 s2 s3 s4 s5 s6 hsn
          generalize (A5.sync D5).1 = A9 at HLI9 HSN ⊢
          generalize (A5.sync D5).2.1 = D9 at HLI9 ⊢
          go_wp2_with fail
          refine (sure_any HLI9.out.log).mono ?_
          rintro e w' ⟨rfl, rfl⟩
          rw [HSN.out]
          go_wp2_with fail
          refine (next_any HLI9.out.log).mono ?_
          rintro e w' ⟨rfl, rfl⟩
          go_wp2_with fail
          refine (awake_any _).mono ?_
          rintro e w10 ⟨rfl, hb10⟩
          have HB10 := hid (bel_next HLI9.out.bel hb10)
          clear hb10
          go_wp2_with fail
          go_ret
          exact ⟨rfl, HB10.out⟩
      · have hlt' : decide ((k : Int) < 300) = false := by simp; omega
        clear hbx
        go_wp2_with fail
        refine (awake_any _).mono ?_
        rintro e w10 ⟨rfl, hb10⟩
        have HB10 := hid (bel_next HLI.out.bel hb10)
        clear hb10
        go_wp2_with fail
        go_ret
        exact ⟨rfl, HB10.out⟩
end Go.Proofs.YtnibpknhpjcamaaGreatDoor
