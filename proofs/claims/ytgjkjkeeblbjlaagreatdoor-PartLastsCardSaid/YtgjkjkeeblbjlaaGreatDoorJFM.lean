/-
  part: write: the walk. Conditions: a partition whose log is well.
  part: Put: the walk. Conditions: a partition whose log is well, or tells that it is not.
-/
import Derived.Test.YtgjkjkeeblbjlaaGreatDoorJEM
import Derived.Test.YtgjkjkeeblbjlaaGreatDoorJDM
import Derived.Test.YtgjkjkeeblbjlaaGreatDoorJAM
import Derived.Test.YtgjkjkeeblbjlaaGreatDoorJBM
set_option maxRecDepth 100000
namespace Go.Proofs.YtgjkjkeeblbjlaaGreatDoor
open Go.RowKit

def PaWrPost (p l : Nat) (w : World) (d : Nat) (S SL SD : Nat → Prop) (n : Int) (r : PPart × PLog × PDisk × Int) (e : Ending) (w' : World) : Prop :=
  e = .returned (.tuple #[.int .i64 (if r.2.2.2 ≠ 0 then 0 else n), .int .i64 r.2.2.2]) ∧ TrioTo (paThing p l) w w' l d S SL SD r.1 r.2.1 r.2.2.1

theorem PaAt.c0 {w : World} {p l : Nat} {S : Nat → Prop} {s : PPart} (h : (paThing p l).held w S s) : w.cell? ⟨p, 0, none⟩ = some (.pointer (some ⟨l, 0, none⟩)) := by
  obtain ⟨pv, ov, gv, hr⟩ := PaAt.rep h
  exact hr.hdr.cell (i := 0) rfl

theorem items8 (w : World) (a b : Value) (T : TypeId) : Reads (w.alloc (.cells #[a, b] T)) (.slice (some ⟨w.heap.size, 0, none⟩) 1 1) 1 2 [a, b] := by
  refine ⟨rfl, _, _, rfl, fun j u hj => ⟨_, rfl, ?_⟩⟩
  have h := (Blk.new w #[a, b] T).cell (i := j) (v := u) (by simpa using hj)
  exact h

set_option maxHeartbeats 8000000 in
theorem paWrite_any {w : World} {p l d : Nat} {S SL SD : Nat → Prop} {s : PPart} {A : ALog} {D : PDisk} {N : Int} (b : PBat) (K : Value) (h : Trio (paThing p l) w l d S SL SD s A.toP D) (hg : NGood paNotes N s A D) (hb : b.ok) (hK : InRecs w K b.l) :
    Calls Tryz.prog 39 #[.pointer (some ⟨p, 0, none⟩), b.val K] w (PaWrPost p l w d S SL SD A.next (paWrite s A.toP D b)) := by
  obtain ⟨ad, cap, rfl, _, _⟩ := hK.form
  have hsm := paSmall_of hg
  have hwl := hg.inv.wf hg.wf
  have hlen : b.lay.length ≤ 34738 := hb.lay_len
  have hout := hg.inv.append_out hg.wf hg.e [⟨b.len, b.lay⟩]
  have hwf1 : (A.toP.append D [⟨b.len, b.lay⟩]).2.1.WF N := PLog.append_disk hg.wf _
  have hwl1 : (A.toP.append D [⟨b.len, b.lay⟩]).2.2.2 = 0 → (A.toP.append D [⟨b.len, b.lay⟩]).1.WF ∧ (A.toP.append D [⟨b.len, b.lay⟩]).2.2.1 = A.next := by
    rw [toP_append] at hwf1 ⊢
    generalize A.append D [⟨b.len, b.lay⟩] = r at hout hwf1 ⊢
    cases hout with
    | ok A' D' inv => exact fun _ => ⟨inv.wf hwf1, rfl⟩
    | full A' D' inv => exact fun h9 => absurd h9 (show ¬ ((5 : Int) = 0) by decide)
    | bad c why =>
      intro h9
      have h8 : c = 0 := h9
      rcases why with ⟨h7, _⟩ | ⟨_, _, h7⟩
      · cases h7
      · omega
    | dark A' A2 D' => exact fun h9 => absurd h9 (show ¬ ((4 : Int) = 0) by decide)
  clear hout
  obtain ⟨rr, hrr⟩ : ∃ rr, paWrite s A.toP D b = rr := ⟨_, rfl⟩
  rw [hrr]
  unfold paWrite noteTo at hrr
  have HAPP : Hid (∀ W iv, Trio (paThing p l) W l d S SL SD s A.toP D → Reads W iv 1 2 [.int .i64 b.len, .string (bs b.lay)] → Calls Tryz.prog 58 #[.pointer (some ⟨l, 0, none⟩), iv] W (AppPost W l d SL SD (A.toP.append D [⟨b.len, b.lay⟩]))) := hid (fun W iv hW hiv =>
    append_all iv [⟨b.len, b.lay⟩] hW.log hW.disk hg.wf hwl hiv (by simp) (by
      intro x hx
      simp only [List.mem_singleton] at hx
      subst hx
      show b.lay.length ≤ _
      omega))
  obtain ⟨L1, D1, off1, err1, hA1⟩ : ∃ L1 D1 off1 err1, A.toP.append D [⟨b.len, b.lay⟩] = (L1, D1, off1, err1) := ⟨_, _, _, _, rfl⟩
  rw [hA1] at hwf1 hwl1 HAPP hrr
  dsimp only at hwf1 hwl1 hrr
  have HRR := hid hrr
  have HT := hid h
  have HW1 := hid hwf1
  have HL1 := hid hwl1
  have HSM := hid hsm
  have hnx : A.toP.next = A.next := rfl
  have k0 := PaAt.c0 h.obj
  have hba : Below w.heap.size w (w.alloc (.cells #[.int .i64 b.kind, .int .i64 b.pid, .int .i64 b.epoch, .int .i64 b.seq, .slice ad b.l.length cap] 31)) := bel_alloc (Below.refl w.heap.size w) _
  have HBA := hid hba
  have HBK := hid (Blk.new w #[.int .i64 b.kind, .int .i64 b.pid, .int .i64 b.epoch, .int .i64 b.seq, .slice ad b.l.length cap] 31)
  have HENC := hid (fun (W : World) (hW : Below w.heap.size w W) => bEncode_ok b _ W (hK.below hW) hb)
  have hplt := World.block_lt_of_cell? w _ k0
  have hne : p ≠ w.heap.size := by have : p < w.heap.size := hplt; omega
  clear hwf1 hwl1 hrr hA1 hba h hg hwl hlen hsm hK hb hplt
  unfold PBat.val at HENC ⊢
  go_enter Tryz.func39, Tryz.ntmps39
  go_wp2_with fail
  refine (HENC.out _ HBA.out).mono ?_
  rintro e w1 ⟨rfl, hb1⟩
  have HB1 : Hid (Below w.heap.size w w1) := hid (bel_next HBA.out hb1)
  have HBK1 : Hid (Blk w1 w.heap.size #[.int .i64 b.kind, .int .i64 b.pid, .int .i64 b.epoch, .int .i64 b.seq, .slice ad b.l.length cap] 31) := hid (HBK.out.below' hb1)
  have HT1 := hid (HT.out.below HB1.out)
  have y0 := PaAt.c0 HT1.out.obj
  have z0 := HBK1.out.cell (i := 0) (v := .int .i64 b.kind) rfl
  have z1 := HBK1.out.cell (i := 1) (v := .int .i64 b.pid) rfl
  have z2 := HBK1.out.cell (i := 2) (v := .int .i64 b.epoch) rfl
  have z3 := HBK1.out.cell (i := 3) (v := .int .i64 b.seq) rfl
  have z4 := HBK1.out.cell (i := 4) (v := .slice ad b.l.length cap) rfl
  clear hb1 HENC HBA HBK k0
  go_wp2_with fail
  refine wp_region_perm (fun w' => w'.cell? ⟨p, 0, none⟩ = some (.pointer (some ⟨l, 0, none⟩)) ∧ w'.cell? ⟨w.heap.size, 0, none⟩ = some (.int .i64 b.kind) ∧ w'.cell? ⟨w.heap.size, 1, none⟩ = some (.int .i64 b.pid) ∧ w'.cell? ⟨w.heap.size, 2, none⟩ = some (.int .i64 b.epoch) ∧ w'.cell? ⟨w.heap.size, 3, none⟩ = some (.int .i64 b.seq) ∧ w'.cell? ⟨w.heap.size, 4, none⟩ = some (.slice ad b.l.length cap)) [5, 8, 9] [0, 1, 2, 3, 4, 6, 5, 7, 8, 9, 10, 11, 12, 13, 14] (by kernel_rfl) (by kernel_rfl) (fun _ _ _ _ _ h => h) (by go_keep) (fun hHeld => ?_)
  iterate 6
    refine ord_take (v := ?_) rfl (by kernel_rfl) (by kernel_rfl) ?_ ?_
    rotate_left
    focus
      intro w' hSw
      try dsimp only at hSw
      go_simp <;> with_reducible rfl
    simp only [Act.put, List.setIfInBounds_toArray]
  refine ord_step rfl (by kernel_rfl) (by kernel_rfl) (fun K hK => ?_)
  go_simp
  have hlen9 := bLen_any b ad cap w1.drew
  unfold PBat.val at hlen9
  refine hlen9.mono ?_
  rintro e w2 ⟨rfl, hb2⟩
  have hbk2 := HBK1.out.drew.below' hb2
  have HB2 := hid (bel_next HB1.out.drew hb2)
  have HBK2 := hid hbk2
  have HT2 := hid (HT.out.below HB2.out)
  have v0 := PaAt.c0 HT2.out.obj
  have u0 := hbk2.cell (i := 0) (v := .int .i64 b.kind) rfl
  have u1 := hbk2.cell (i := 1) (v := .int .i64 b.pid) rfl
  have u2 := hbk2.cell (i := 2) (v := .int .i64 b.epoch) rfl
  have u3 := hbk2.cell (i := 3) (v := .int .i64 b.seq) rfl
  have u4 := hbk2.cell (i := 4) (v := .slice ad b.l.length cap) rfl
  clear hlen9 hb2 hbk2
  go_simp
  refine hK.out _ _ (by exact ⟨v0, u0, u1, u2, u3, u4⟩) (fun hHeld => ?_)
  clear hK K
  try simp only [Act.put, List.setIfInBounds_toArray, List.set_cons_zero, List.set_cons_succ]
  iterate 1
    refine ord_take (v := ?_) rfl (by kernel_rfl) (by kernel_rfl) ?_ ?_
    rotate_left
    focus
      intro w' hSw
      try dsimp only at hSw
      go_simp <;> with_reducible rfl
    simp only [Act.put, List.setIfInBounds_toArray]
  refine ord_step rfl (by kernel_rfl) (by kernel_rfl) (fun K hK => ?_)
  go_simp
  refine hK.out _ _ (by go_keep) (fun hHeld => ?_)
  clear hK K
  try simp only [Act.put, List.setIfInBounds_toArray, List.set_cons_zero, List.set_cons_succ]
  refine ord_step rfl (by kernel_rfl) (by kernel_rfl) (fun K hK => ?_)
  go_simp
  have HTA := hid (HT2.out.below (bel_alloc (Below.refl _ _) (.cells #[.int .i64 b.len, .string (bs b.lay)] 129)))
  have HBA2 := hid (bel_alloc HB2.out (.cells #[.int .i64 b.len, .string (bs b.lay)] 129))
  have HBKA := hid (HBK2.out.alloc (.cells #[.int .i64 b.len, .string (bs b.lay)] 129))
  refine (HAPP.out _ _ HTA.out (items8 w2 _ _ _)).mono ?_
  rintro e w3 ⟨rfl, hto⟩
  have hto3 := HTA.out.log_to hto
  have HBK3 := hid (HTA.out.blk hto3 HBKA.out (show 31 ∉ [82, 91, 58, 111] by decide) (by decide))
  obtain ⟨S3, SL3, SD3, ha3, _⟩ := hto3.split
  have HA3 := hid ha3
  have HT3 : Hid (TrioTo (paThing p l) w w3 l d S SL SD s L1 D1) := hid (TrioTo.after HBA2.out ⟨S3, SL3, SD3, ha3⟩)
  have t0 := PaAt.c0 ha3.1.obj
  have r0 := HBK3.out.cell (i := 0) (v := .int .i64 b.kind) rfl
  have r1 := HBK3.out.cell (i := 1) (v := .int .i64 b.pid) rfl
  have r2 := HBK3.out.cell (i := 2) (v := .int .i64 b.epoch) rfl
  have r3 := HBK3.out.cell (i := 3) (v := .int .i64 b.seq) rfl
  have r4 := HBK3.out.cell (i := 4) (v := .slice ad b.l.length cap) rfl
  clear hto hto3 ha3
  go_simp
  refine hK.out _ _ (by exact ⟨t0, r0, r1, r2, r3, r4⟩) (fun hHeld => ?_)
  clear hK K
  try simp only [Act.put, List.setIfInBounds_toArray, List.set_cons_zero, List.set_cons_succ]
  iterate 5
    refine ord_take (v := ?_) rfl (by kernel_rfl) (by kernel_rfl) ?_ ?_
    rotate_left
    focus
      intro w' hSw
      try dsimp only at hSw
      go_simp <;> with_reducible rfl
    simp only [Act.put, List.setIfInBounds_toArray]
  refine ord_nil ?_
  clear z0 z1 z2 z3 z4 y0 u0 u1 u2 u3 u4 v0 HT1 HT2 HBK1 HBK2 HB1 HB2 HTA HBKA HAPP hHeld
  by_cases herr : err1 = 0
  · subst herr
    have HL2 : Hid L1.WF := hid (HL1.out rfl).1
    obtain rfl : off1 = A.next := (HL1.out rfl).2
    have HR2 := hid (HRR.out.symm.trans (if_neg (show ¬ ((0 : Int) ≠ 0) by decide)))
    clear HL1 HRR
    go_wp2_with fail
    refine (logSync_any HA3.out.1.log HA3.out.1.disk HW1.out HL2.out).mono ?_
    rintro e w4 ⟨rfl, hto2⟩
    have hto4 := HA3.out.1.log_to hto2
    have HBK4 := hid (HA3.out.1.blk hto4 HBK3.out (show 31 ∉ [82, 91, 58, 111] by decide) (by decide))
    obtain ⟨S4, SL4, SD4, ha4, _⟩ := hto4.split
    obtain ⟨L2, D2, err2, hs2⟩ : ∃ L2 D2 err2, L1.sync D1 = (L2, D2, err2) := ⟨_, _, _, rfl⟩
    rw [hs2] at ha4 HR2 ⊢
    dsimp only at ha4
    have HT4 := hid (TrioTo.after HBA2.out (TrioTo.next HA3.out ⟨S4, SL4, SD4, ha4⟩))
    have HA4 := hid ha4
    clear hto2 hs2 ha4 hto4 HT3 t0 r0 r1 r2 r3 r4 HBK3
    by_cases herr2 : err2 = 0
    · subst herr2
      have HR3 := hid (HR2.out.trans (if_neg (show ¬ ((0 : Int) ≠ 0) by decide)))
      have s0 := HBK4.out.cell (i := 0) (v := .int .i64 b.kind) rfl
      have s1 := HBK4.out.cell (i := 1) (v := .int .i64 b.pid) rfl
      have s2 := HBK4.out.cell (i := 2) (v := .int .i64 b.epoch) rfl
      have s3 := HBK4.out.cell (i := 3) (v := .int .i64 b.seq) rfl
      have s4 := HBK4.out.cell (i := 4) (v := .slice ad b.l.length cap) rfl
      have htk := paTook_any b ad cap A.next HA4.out.1.obj HSM.out.p8 (Nat.le_trans HSM.out.ol (by decide)) (Nat.le_trans HSM.out.gl (by decide))
      unfold PBat.val at htk
      clear HR2
      go_wp2_with fail
      refine htk.mono ?_
      rintro e w5 ⟨rfl, hto5⟩
      have HTO := hid (TrioTo.after HBA2.out (TrioTo.next HA3.out (TrioTo.next HA4.out (HA4.out.1.obj_to hto5))))
      clear htk hto5
      go_wp2_with fail
      go_ret2
      unfold PaWrPost
      rw [HR3.out]
      exact ⟨rfl, HTO.out⟩
    · have hz1 : (err2 != 0) = true := by simpa using herr2
      have hz2 : decide (err2 = 0) = false := decide_eq_false herr2
      have HR3 := hid (HR2.out.trans (if_pos herr2))
      have HNE := hid herr2
      clear HR2 herr2
      go_wp2_with fail
      go_ret2
      unfold PaWrPost
      rw [HR3.out]
      dsimp only
      rw [if_pos HNE.out]
      exact ⟨rfl, HT4.out⟩
  · have hz1 : (err1 != 0) = true := by simpa using herr
    have hz2 : decide (err1 = 0) = false := decide_eq_false herr
    have HR2 := hid (HRR.out.symm.trans (if_pos herr))
    have HNE := hid herr
    clear HRR herr
    go_wp2_with fail
    go_ret2
    unfold PaWrPost
    rw [HR2.out]
    dsimp only
    rw [if_pos HNE.out]
    exact ⟨rfl, HT3.out⟩
end Go.Proofs.YtgjkjkeeblbjlaaGreatDoor

namespace Go.Proofs.YtgjkjkeeblbjlaaGreatDoor
open Go.RowKit

theorem lookP_ok {l : List PProd} {b : PBat} (h : (lookP l b).2.2 = 0) : b.ok ∧ b.kind ≤ 2 := by
  unfold lookP at h
  split at h
  · exact absurd h (by decide)
  · rename_i h1
    exact ⟨Classical.byContradiction fun h9 => h1 (.inl h9), by omega⟩

/-- What a call on a partition comes to. -/
def PaPost (p l : Nat) (w : World) (d : Nat) (S SL SD : Nat → Prop) (r : PaRes) (v : Value) (e : Ending) (w' : World) : Prop :=
  e = .returned v ∧ TrioTo (paThing p l) w w' l d S SL SD r.s r.L r.D

set_option maxHeartbeats 8000000 in
theorem paPut_any {w : World} {p l d : Nat} {S SL SD : Nat → Prop} {s : PPart} {A : ALog} {D : PDisk} {N : Int} (b : PBat) (K : Value) (h : Trio (paThing p l) w l d S SL SD s A.toP D) (hs : PaSmall s) (hg : A.e = 0 → NGood paNotes N s A D) (hK : InRecs w K b.l) (ht : ∀ r ∈ b.l, r.text.length ≤ 1000000) (hn : b.l.length ≤ 1000000) :
    Calls Tryz.prog 18 #[.pointer (some ⟨p, 0, none⟩), b.val K] w (PaPost p l w d S SL SD (s.put A.toP D b) (.tuple #[.int .i64 (s.put A.toP D b).n, .bool (s.put A.toP D b).yes, .int .i64 (s.put A.toP D b).e])) := by
  obtain ⟨ad, cap, rfl, _, _⟩ := hK.form
  obtain ⟨rr, hrr⟩ : ∃ rr, s.put A.toP D b = rr := ⟨_, rfl⟩
  rw [hrr]
  unfold PPart.put at hrr
  have HRR := hid hrr
  have HSM := hid hs
  have HG := hid hg
  have hba : Below w.heap.size w (w.alloc (.cells #[.int .i64 b.kind, .int .i64 b.pid, .int .i64 b.epoch, .int .i64 b.seq, .slice ad b.l.length cap] 31)) := bel_alloc (Below.refl w.heap.size w) _
  have HBK := hid (Blk.new w #[.int .i64 b.kind, .int .i64 b.pid, .int .i64 b.epoch, .int .i64 b.seq, .slice ad b.l.length cap] 31)
  have HT := hid h
  have HTA := hid (h.below hba)
  have HKA := hid (hK.below hba)
  have HBA := hid hba
  have HN := hid (paNone_any HTA.out.obj)
  have HBR := hid (broken_any HTA.out.log)
  unfold ptr at HBR
  have k0 := PaAt.c0 h.obj
  have hplt : p < w.heap.size := World.block_lt_of_cell? w _ k0
  have hne : p ≠ w.heap.size := by omega
  clear hrr h hs hg hK hba k0 hplt
  have hel : A.toP.e = A.e := rfl
  unfold PBat.val
  by_cases he : A.e = 0
  · have HR2 := hid (HRR.out.symm.trans (if_neg (fun h9 => h9 he)))
    have HNG := hid (HG.out he)
    rw [hel, he] at HBR
    clear he HRR HG hel
    obtain ⟨n1, y1, e1, hlk⟩ : ∃ n1 y1 e1, lookP s.prods b = (n1, y1, e1) := ⟨_, _, _, rfl⟩
    have hok := lookP_ok (l := s.prods) (b := b)
    have hr3 := HR2.out
    rw [hlk] at hr3 hok
    dsimp only at hr3 hok
    have HR3 := hid hr3
    have HOK := hid hok
    have HLK := hid hlk
    clear hlk hr3 hok HR2
    have c0 := PaAt.c0 HTA.out.obj
    go_enter Tryz.func18, Tryz.ntmps18
    go_wp2_with fail
    refine HN.out.mono ?_
    rintro e w' ⟨rfl, rfl⟩
    go_wp2_with fail
    refine HBR.out.mono ?_
    rintro e w' ⟨rfl, rfl⟩
    go_wp2_with fail
    have hbb : w.heap.size < (w.alloc (.cells #[.int .i64 b.kind, .int .i64 b.pid, .int .i64 b.epoch, .int .i64 b.seq, .slice ad b.l.length cap] 31)).heap.size := by simp
    clear c0 HN HBR
    generalize w.alloc (.cells #[.int .i64 b.kind, .int .i64 b.pid, .int .i64 b.epoch, .int .i64 b.seq, .slice ad b.l.length cap] 31) = wa at HBA HBK HTA HKA hbb ⊢
    obtain ⟨pv, ov, gv, hr⟩ := PaAt.rep HTA.out.obj
    have c1 := hr.hdr.cell (i := 1) (v := pv) rfl
    have z0 := HBK.out.cell (i := 0) (v := .int .i64 b.kind) rfl
    have z1 := HBK.out.cell (i := 1) (v := .int .i64 b.pid) rfl
    have z2 := HBK.out.cell (i := 2) (v := .int .i64 b.epoch) rfl
    have z3 := HBK.out.cell (i := 3) (v := .int .i64 b.seq) rfl
    have z4 := HBK.out.cell (i := 4) (v := .slice ad b.l.length cap) rfl
    have hlook := look_any b hr.prods.drew ⟨HSM.out.pin, Nat.le_trans HSM.out.p8 (by decide)⟩ (HKA.out.below (w' := wa.drew) (Below.refl _ _).drew) ht hn
    rw [HLK.out] at hlook
    unfold PBat.val at hlook
    have HLOOK := hid hlook
    clear hr hlook
    refine wp_region_lex (fun w' => w'.cell? ⟨p, 1, none⟩ = some pv ∧ w'.cell? ⟨w.heap.size, 0, none⟩ = some (.int .i64 b.kind) ∧ w'.cell? ⟨w.heap.size, 1, none⟩ = some (.int .i64 b.pid) ∧ w'.cell? ⟨w.heap.size, 2, none⟩ = some (.int .i64 b.epoch) ∧ w'.cell? ⟨w.heap.size, 3, none⟩ = some (.int .i64 b.seq) ∧ w'.cell? ⟨w.heap.size, 4, none⟩ = some (.slice ad b.l.length cap)) [5] (by kernel_rfl) (by kernel_rfl) (fun _ _ _ _ _ h => h) (by go_keep) (fun hHeld => ?_)
    iterate 5
      refine lex_take (v := ?_) (by kernel_rfl) (by kernel_rfl) ?_ ?_
      rotate_left
      focus
        intro w' hSw
        try dsimp only at hSw
        go_simp <;> with_reducible rfl
      simp only [Act.put, List.setIfInBounds_toArray, List.set_cons_zero, List.set_cons_succ]
    refine lex_step (by kernel_rfl) (by kernel_rfl) (fun K hK => ?_)
    go_simp
    refine HLOOK.out.mono ?_
    rintro e w2 ⟨rfl, hb2⟩
    have hb2' : Below wa.heap.size wa w2 := bel_next (Below.refl wa.heap.size wa).drew hb2
    have HBK2 := hid (HBK.out.below' hb2')
    have HT2 := hid (HTA.out.below hb2')
    have HK2 := hid (HKA.out.below hb2')
    have HB2 := hid (bel_next HBA.out hb2')
    obtain ⟨pv2, ov2, gv2, hr2⟩ := PaAt.rep HT2.out.obj
    have y1' : w2.cell? ⟨p, 1, none⟩ = some pv := (hb2'.cell (p := ⟨p, 1, none⟩) (World.block_lt_of_cell? wa _ c1)).trans c1
    have u0 := HBK2.out.cell (i := 0) (v := .int .i64 b.kind) rfl
    have u1 := HBK2.out.cell (i := 1) (v := .int .i64 b.pid) rfl
    have u2 := HBK2.out.cell (i := 2) (v := .int .i64 b.epoch) rfl
    have u3 := HBK2.out.cell (i := 3) (v := .int .i64 b.seq) rfl
    have u4 := HBK2.out.cell (i := 4) (v := .slice ad b.l.length cap) rfl
    clear hb2 hb2' hr2
    go_simp
    refine hK.out _ _ (by exact ⟨y1', u0, u1, u2, u3, u4⟩) (fun hHeld => ?_)
    clear hK K
    try simp only [Act.put, List.setIfInBounds_toArray, List.set_cons_zero, List.set_cons_succ]
    iterate 7
      refine lex_take (v := ?_) (by kernel_rfl) (by kernel_rfl) ?_ ?_
      rotate_left
      focus
        intro w' hSw
        try dsimp only at hSw
        go_simp <;> with_reducible rfl
      simp only [Act.put, List.setIfInBounds_toArray, List.set_cons_zero, List.set_cons_succ]
    refine lex_nil ?_
    clear hHeld c1 y1' z0 z1 z2 z3 z4 HLOOK HLK HTA HKA HBK HBA
    by_cases he1 : e1 = 0
    · subst he1
      have HOKB := hid (HOK.out rfl).1
      cases y1 with
      | true =>
        have HR4 := hid (HR3.out.trans (if_pos (.inr rfl)))
        clear HR3 HOK
        have HF := hid (TrioTo.of_below HT.out HB2.out)
        go_wp2_with fail
        refine ⟨rfl, .tuple #[.int .i64 n1, .bool true, .int .i64 0], by simp [results, Tryz.results18, go_sem], ?_, ?_⟩
        · rw [HR4.out]
        · rw [HR4.out]; exact HF.out
      | false =>
        have HR4 := hid (HR3.out.trans (if_neg (by simp)))
        have hwr := paWrite_any b _ HT2.out HNG.out HOKB.out HK2.out
        unfold PBat.val at hwr
        have HWR := hid hwr
        obtain ⟨q, hq⟩ : ∃ q, paWrite s A.toP D b = q := ⟨_, rfl⟩
        have hr5 := HR4.out
        rw [hq] at hr5 HWR
        have HR5 := hid hr5
        clear HR3 HOK hwr hq hr5 HR4
        go_wp2_with fail
        refine HWR.out.mono ?_
        rintro e w3 ⟨rfl, hto⟩
        have HF := hid (TrioTo.after HB2.out hto)
        have hnx : A.toP.next = A.next := rfl
        have hr6 := HR5.out
        rw [hnx] at hr6
        have HR6 := hid hr6
        clear hto HWR HT2 HBK2 HK2 HR5 hnx hr6
        generalize (if q.2.2.2 ≠ 0 then 0 else A.next) = nn at HR6 ⊢
        go_wp2_with fail
        refine ⟨rfl, .tuple #[.int .i64 nn, .bool false, .int .i64 q.2.2.2], by simp [results, Tryz.results18, go_sem], ?_, ?_⟩
        · rw [HR6.out]
        · rw [HR6.out]; exact HF.out
    · have hz1 : (e1 != 0) = true := by simpa using he1
      have hz2 : decide (e1 = 0) = false := decide_eq_false he1
      have HR4 := hid (HR3.out.trans (if_pos (.inl he1)))
      have HF := hid (TrioTo.of_below HT.out HB2.out)
      clear HR3 HOK he1
      go_wp2_with fail
      refine ⟨rfl, .tuple #[.int .i64 n1, .bool y1, .int .i64 e1], by simp [results, Tryz.results18, go_sem], ?_, ?_⟩
      · rw [HR4.out]
      · rw [HR4.out]; exact HF.out
  · have HR2 := hid (HRR.out.symm.trans (if_pos he))
    have hz1 : (A.e != 0) = true := by simpa using he
    have hz2 : decide (A.e = 0) = false := decide_eq_false he
    rw [hel] at HBR
    have c0 := PaAt.c0 HTA.out.obj
    have HF := hid (TrioTo.of_below HT.out HBA.out)
    clear he HRR HG hel
    go_enter Tryz.func18, Tryz.ntmps18
    go_wp2_with fail
    refine HN.out.mono ?_
    rintro e w' ⟨rfl, rfl⟩
    go_wp2_with fail
    refine HBR.out.mono ?_
    rintro e w' ⟨rfl, rfl⟩
    go_wp2_with fail
    refine ⟨rfl, .tuple #[.int .i64 0, .bool false, .int .i64 A.e], by simp [results, Tryz.results18, go_sem], ?_, ?_⟩
    · rw [HR2.out]; rfl
    · rw [HR2.out]; exact HF.out
end Go.Proofs.YtgjkjkeeblbjlaaGreatDoor
