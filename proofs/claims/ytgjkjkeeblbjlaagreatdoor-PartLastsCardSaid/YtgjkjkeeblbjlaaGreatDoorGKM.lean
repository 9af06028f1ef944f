/-
  disk: Truncate: the walk. Conditions: texts that fit.
  disk: Truncate: the walk. Conditions: texts that fit.
  disk: Crash: the walk. Conditions: numbers that read.
-/
import Derived.Test.YtgjkjkeeblbjlaaGreatDoorGCM
import Derived.BigRegion
import Derived.Test.YtgjkjkeeblbjlaaGreatDoorGFM
import Derived.Deep.RegionHeld3
import Derived.Test.YtgjkjkeeblbjlaaGreatDoorGIM
set_option maxRecDepth 100000
namespace Go.Proofs.YtgjkjkeeblbjlaaGreatDoor
open Go.RowKit

def cutAct (n : Int) (D : PDisk) (f : PFile) : PDisk := { D with files := putF D.files (f.cut n.toNat), room := D.room + (blk f.size - blk n) }

set_option maxHeartbeats 4000000 in
theorem trunc1_any {d m : Nat} {fs : List (Nat × PFile)} {D : PDisk} {N : Int} {b : Nat} {f : PFile} {w : World} {bd bn : Nat} (n : Int) (h : DiskRep w d m fs D) (hw : D.WF N) (hb : (b, f) ∈ fs) (hn0 : 0 ≤ n) (hn1 : n ≤ f.size)
    (hbd : Blk w bd #[ptr d] 24) (hbn : Blk w bn #[.int .i64 n] 3) :
    Calls Tryz.prog 102 #[ptr b, .pointer (some ⟨bd, 0, none⟩), .pointer (some ⟨bn, 0, none⟩)] w fun e w' => e = .returned (.int .i64 0) ∧ DiskTo w w' d (foot d m fs) (cutAct n D f) := by
  obtain ⟨hl1, hl2⟩ := hw.lens (f := f) (h.mem' hb)
  have hfs1 : f.size ≤ f.sure.length + f.loose.length := Nat.le_refl _
  have hfs2 : f.sure.length + f.loose.length ≤ f.size := Nat.le_refl _
  have hrm := hw.room
  have hrm2 := hw.room_le
  have hbk := h.blk _ hb
  obtain ⟨c0, c1, c2, c3, f0, f1, f2, f3⟩ := h.cells
  have g0 := hbk.cell (i := 0) (v := .string (bs f.sure)) rfl
  have g1 := hbk.cell (i := 1) (v := .string (bs f.loose)) rfl
  have k0 := hbk.free 0
  have k1 := hbk.free 1
  have d0 := hbd.cell (i := 0) (v := ptr d) rfl
  have n0 := hbn.cell (i := 0) (v := .int .i64 n) rfl
  have s0 : (bs f.sure).size = f.sure.length := rfl
  have s1 : (bs f.loose).size = f.loose.length := rfl
  have hb1 := blk_ub (n := (f.size : Int)) (by omega)
  have hb2 := blk_ub hn0
  have hb3 := blk_pos (f.size : Int)
  have hb4 := blk_pos n
  have hdb : d ≠ b := fun e => h.bd hb e.symm
  have HH := hid (And.intro h (And.intro hw (And.intro hb hbk)))
  have HBS := hid (And.intro hbd hbn)
  clear h hw hb hbk hbd hbn
  unfold ptr at d0 ⊢
  go_enter Tryz.func102, Tryz.ntmps102
  go_upto_region 1 with fail
  have hz0 : ¬ (n < 0) := by omega
  have hwr1 : IntKind.i64.wrap (blk (f.size : Int) - blk n) = blk (f.size : Int) - blk n := IntWalk.i64_in _ (by omega)
  have hwr2 : IntKind.i64.wrap (D.room + (blk (f.size : Int) - blk n)) = D.room + (blk (f.size : Int) - blk n) := IntWalk.i64_in _ (by omega)
  have hwr3 : wrap64 (blk (f.size : Int) - blk n) = blk (f.size : Int) - blk n := IntWalk.wrap64_in _ (by omega)
  have hwr4 : wrap64 (D.room + (blk (f.size : Int) - blk n)) = D.room + (blk (f.size : Int) - blk n) := IntWalk.wrap64_in _ (by omega)
  refine wp_region_quiet_tail 13 (by kernel_rfl) (by kernel_rfl) ?_
  simp only [List.take_succ_cons, List.take_zero, List.drop_succ_cons, List.drop_zero]
  repeat (any_goals (quiet_step ((first
      | (go_at_call 55; exact Calls.quiet_of (size_any b f _ (Blk.drewN HH.out.2.2.2 _) hl1 hl2))
      | (go_at_call 54; exact Calls.quiet_of_same ((blocks_any _ _ (by omega) (by omega)).mono (fun _ _ h => ⟨h.1, h.2.symm⟩)))))))
  refine wpQuiet_nil ?_
  rintro w' ⟨nq, rfl⟩
  go_upto_region 2 with fail
  clear hwr1 hwr2 hwr3 hwr4
  have hf1 : Fr (fun k => k = d) w ((w.drewN nq).setCell ⟨d, 1, none⟩ (.int .i64 (D.room + (blk (f.size : Int) - blk n)))) := Fr.setCell (S := fun k => k = d) (p := ⟨d, 1, none⟩) ((Fr.refl _ w).drewN nq) (.inl rfl) _
  have hb1 : Blk ((w.drewN nq).setCell ⟨d, 1, none⟩ (.int .i64 (D.room + (blk (f.size : Int) - blk n)))) d #[.map (some m), .int .i64 (D.room + (blk (f.size : Int) - blk n)), .int .i64 D.fuse, .bool D.off] 96 := (HH.out.1.hdr.drewN nq).set 1 _
  have hrep1 := HH.out.1.set hf1 hb1
  have hbk1 := HH.out.2.2.2.fr hf1 (fun e => hdb e.symm)
  have hbn1 := HBS.out.2.fr hf1 (fun e => by
    have h9 := HBS.out.2
    rw [e] at h9
    exact absurd (h9.inj HH.out.1.hdr).2 (by decide))
  generalize (w.drewN nq).setCell ⟨d, 1, none⟩ (.int .i64 (D.room + (blk (f.size : Int) - blk n))) = W at *
  have q0 := hbk1.cell (i := 0) (v := .string (bs f.sure)) rfl
  have q1 := hbk1.cell (i := 1) (v := .string (bs f.loose)) rfl
  have j0 := hbk1.free 0
  have j1 := hbk1.free 1
  have m0 := hbn1.cell (i := 0) (v := .int .i64 n) rfl
  have hblt := hbk1.lt
  have HR1 := hid hrep1
  have HB1 := hid hbk1
  have HF1 := hid hf1
  have hnb : bn ≠ b := fun e => by
    rw [e] at hbn1
    exact absurd (hbn1.inj hbk1).2 (by decide)
  clear hrep1 hbk1 hf1 hb1 hbn1 c0 c1 c2 c3 f0 f1 f2 f3 g0 g1 k0 k1 d0 n0
  go_quiet (fail)
  go_upto_region 3 with fail
  have hmin : min n (f.sure.length : Int) = ((min n.toNat f.sure.length : Nat) : Int) := by omega
  rw [hmin]
  obtain ⟨kk, hkk⟩ : ∃ kk, kk = min n.toNat f.sure.length := ⟨_, rfl⟩
  rw [← hkk]
  have hk1 : kk ≤ f.sure.length := by omega
  have hk2 : (kk : Int) ≤ n := by omega
  have hk3 : n - kk ≤ f.loose.length := by omega
  have hwk : IntKind.i64.wrap (n - (kk : Int)) = n - kk := IntWalk.i64_in _ (by omega)
  have hwk0 : 0 ≤ n - (kk : Int) := by omega
  have HKK := hid hkk
  clear hmin hkk
  clear hb1 hb2 hb3 hb4 hrm hrm2 hfs1 hfs2
  go_region
  go_wp2_with fail
  go_ret
  refine ⟨rfl, ?_⟩
  rw [extract_take, extract_take, tl_bs, tl_bs]
  have hfr : ∀ n2, Fr (fun k => k = b) W (((W.drewN n2).setCell ⟨b, 0, none⟩ (.string (bs (f.sure.take kk)))).setCell ⟨b, 1, none⟩ (.string (bs (f.loose.take (n.toNat - kk))))) := fun n2 =>
    Fr.setCell (S := fun k => k = b) (p := ⟨b, 1, none⟩) (Fr.setCell (S := fun k => k = b) (p := ⟨b, 0, none⟩) ((Fr.refl _ W).drewN n2) (.inl rfl) _) (.inl rfl) _
  have hput : ∀ n2, DiskTo w (((W.drewN n2).setCell ⟨b, 0, none⟩ (.string (bs (f.sure.take kk)))).setCell ⟨b, 1, none⟩ (.string (bs (f.loose.take (n.toNat - kk))))) d (foot d m fs) (cutAct n D f) := fun n2 => by
    obtain ⟨fs1, hrep, hft⟩ := HR1.out.put (f' := f.cut n.toNat) HH.out.2.1.sorted HH.out.2.2.1 rfl (hfr n2) (by
      have h9 := ((HB1.out.drewN n2).set 0 (.string (bs (f.sure.take kk)))).set 1 (.string (bs (f.loose.take (n.toNat - kk))))
      unfold PFile.cut
      rw [← HKK.out]
      exact h9)
    refine .of_rep hrep ((HF1.out.mono (by rintro k _ rfl; exact .inl rfl)).trans ((hfr n2).mono (by rintro k _ rfl; exact .inr (.inr (List.mem_map.2 ⟨_, HH.out.2.2.1, rfl⟩))))) (fun k hk => .inl ((hft k).1 hk))
  exact hput _

end Go.Proofs.YtgjkjkeeblbjlaaGreatDoor

namespace Go.Proofs.YtgjkjkeeblbjlaaGreatDoor
open Go.RowKit

theorem PDisk.burn_look (D : PDisk) (nm : List UInt8) : D.burn.1.look nm = D.look nm := by
  unfold PDisk.look
  rw [(PDisk.burn_files D).1]

set_option maxHeartbeats 2000000 in
theorem work_trunc {d m : Nat} {fs : List (Nat × PFile)} {D : PDisk} {N : Int} {f : PFile} {w : World} {bd bn : Nat} (n : Int) (h : DiskRep w d m fs D) (hw : D.WF N) (h1 : f.name.length ≤ 1099511627776) (hr : D.ready f.name = 0) (hf : f ∈ D.files) (hn0 : 0 ≤ n) (hn1 : n ≤ f.size)
    (hbd : Blk w bd #[ptr d] 24) (hbn : Blk w bn #[.int .i64 n] 3) :
    Calls Tryz.prog 101 #[ptr d, .string (bs f.name), .func (.func 102) #[] #[.pointer (some ⟨bd, 0, none⟩), .pointer (some ⟨bn, 0, none⟩)]] w fun e w' => e = .returned (.int .i64 (D.work f.name (cutAct n)).2) ∧ DiskTo w w' d (foot d m fs) (D.work f.name (cutAct n)).1 := by
  have HF := hid (PDisk.work_some (cutAct n) hr (PDisk.look_mem hw.sorted hf))
  obtain ⟨b, hb⟩ := h.mem hf
  have HW := hid hw
  have HBS := hid (And.intro hbd hbn)
  clear hw hbd hbn
  unfold ptr
  go_enter Tryz.func101, Tryz.ntmps101
  go_wp2_with fail
  refine (ready_at f.name h h1).mono ?_
  rintro e w1 ⟨rfl, hd, hbl⟩
  rw [hr]
  obtain ⟨c0, c1, c2, c3, f0, f1, f2, f3⟩ := hd.cells
  have hlk := hd.find hb
  have HBL := hid hbl
  unfold ptr at hlk
  clear hbl
  go_wp2_with fail
  refine (burn_any d m fs D _ hd HW.out.fuse HW.out.fuse').mono ?_
  rintro e w2 ⟨rfl, hrep2, hf2⟩
  have hto : DiskTo w w2 d (foot d m fs) D.burn.1 := .of_rep hrep2 ((Fr.of_below HBL.out).trans (hf2.mono (by rintro k _ rfl; exact .inl rfl))) (fun k hk => .inl hk)
  cases hb2 : D.burn.2 with
  | true =>
    rw [hb2] at HF
    have hbd2 := (HBS.out.1.below' HBL.out).fr hf2 (fun e => by
      have h9 := HBS.out.1
      rw [e] at h9
      exact absurd (h9.inj h.hdr).2 (by decide))
    have hbn2 := (HBS.out.2.below' HBL.out).fr hf2 (fun e => by
      have h9 := HBS.out.2
      rw [e] at h9
      exact absurd (h9.inj h.hdr).2 (by decide))
    have HB2 := hid (And.intro hbd2 hbn2)
    have HTO := hid hto
    clear hbd2 hbn2 hto c0 c1 c2 c3 f0 f1 f2 f3 hlk hf2
    go_wp2_with fail
    refine (trunc1_any n hrep2 HW.out.burn hb hn0 hn1 HB2.out.1 HB2.out.2).mono ?_
    rintro e w3 ⟨rfl, hto2⟩
    go_wp2_with fail
    go_ret
    rw [HF.out]
    refine ⟨rfl, ?_⟩
    obtain ⟨S1, a1, r1, s1⟩ := HTO.out
    obtain ⟨S2, a2, r2, s2⟩ := hto2
    have hsz := r1.size
    have hfm : Fr (foot d m fs) w w2 := r1
    exact ⟨S2, a2, hfm.trans r2, fun k hk => (s2 k hk).elim .inl (fun h => .inr (by omega))⟩
  | false =>
    rw [hb2] at HF
    go_wp2_with fail
    go_ret
    rw [HF.out]
    exact ⟨rfl, hto⟩

theorem DiskTo.behind {w w1 w2 : World} {d : Nat} {S : Nat → Prop} {D' : PDisk} (hb : Below w.heap.size w w1) (h : DiskTo w1 w2 d S D') : DiskTo w w2 d S D' := by
  obtain ⟨S1, a1, r1, s1⟩ := h
  have hsz := hb.size
  exact ⟨S1, a1, (Fr.of_below hb).trans r1, fun k hk => (s1 k hk).elim .inl (fun h => .inr (by omega))⟩

theorem PDisk.truncate_eq (D : PDisk) (nm : List UInt8) (n : Int) : D.truncate nm n = if D.ready nm ≠ 0 then (D, D.ready nm) else if (∃ f, D.look nm = some f ∧ (n < 0 ∨ (f.size : Int) < n)) then (D, 6) else D.work nm (cutAct n) := by
  unfold PDisk.truncate cutAct PFile.cut
  rfl

set_option maxHeartbeats 2000000 in
/-- **Truncate.** -/
theorem truncate_any (d : Nat) (S : Nat → Prop) (D : PDisk) (N : Int) (nm : List UInt8) (n : Int) (w : World) (h : DiskAt w d S D) (hw : D.WF N) (h1 : nm.length ≤ 1099511627776) :
    Calls Tryz.prog 69 #[ptr d, .string (bs nm), .int .i64 n] w fun e w' => e = .returned (.int .i64 (D.truncate nm n).2) ∧ DiskTo w w' d S (D.truncate nm n).1 := by
  obtain ⟨m, fs, hd, hS⟩ := h
  obtain rfl : S = foot d m fs := funext fun k => propext (hS k)
  have HT := hid (D.truncate_eq nm n)
  have hbd := (Blk.new w #[ptr d] 24).alloc (.cells #[.int .i64 n] 3)
  have hbn := Blk.new (w.alloc (.cells #[ptr d] 24)) #[.int .i64 n] 3
  simp only [World.size_alloc] at hbn
  have hbl : Below w.heap.size w ((w.alloc (.cells #[ptr d] 24)).alloc (.cells #[.int .i64 n] 3)) := bel_alloc (bel_alloc (Below.refl _ _) _) _
  have hd1 := hd.below hbl
  have HD1 := hid hd1
  have HBL := hid hbl
  have HB1 := hid (And.intro hbd hbn)
  have q0 := hbd.cell (i := 0) (v := ptr d) rfl
  have q1 := hbn.cell (i := 0) (v := .int .i64 n) rfl
  have HW := hid hw
  have hsz := hbl.size
  clear hbl hd1 hd hbd hbn hw hS
  unfold ptr at HB1 q0 q1 HD1 HBL hsz ⊢
  go_enter Tryz.func69, Tryz.ntmps69
  go_upto_region 1 with fail
  generalize (w.alloc (.cells #[.pointer (some ⟨d, 0, none⟩)] 24)).alloc (.cells #[.int .i64 n] 3) = W1 at HD1 HBL HB1 q0 q1 hsz ⊢
  generalize hb2 : w.heap.size + 1 = bn at HB1 q1 ⊢
  generalize hb1 : w.heap.size = bd at HB1 q0 ⊢
  have HBE := hid (And.intro hb1 hb2)
  have lb1 := HB1.out.1.lt
  have lb2 := HB1.out.2.lt
  clear hb1 hb2
  by_cases hr : D.ready nm = 0
  · go_wp2_with fail
    refine (ready_at nm HD1.out h1).mono ?_
    rintro e w2 ⟨rfl, hd2, hbl2⟩
    rw [hr]
    have HR := hid hr
    have HBL2 := hid hbl2
    have q0 := (hbl2.cell (p := ⟨bd, 0, none⟩) lb1).trans q0
    have q1 := (hbl2.cell (p := ⟨bn, 0, none⟩) lb2).trans q1
    obtain ⟨c0, c1, c2, c3, f0, f1, f2, f3⟩ := hd2.cells
    have HD2 := hid hd2
    have HB2 := hid (And.intro (HB1.out.1.below' hbl2) (HB1.out.2.below' hbl2))
    have HBW := hid (Below.trans HBL.out (hbl2.mono (by have := HBL.out.size; omega)))
    clear hr hbl2 hd2
    cases hl : D.look nm with
    | none =>
      have hlk := HD2.out.miss hl
      have HLN := hid hl
      have HT2 : Hid (D.truncate nm n = D.work nm (cutAct n)) := hid (by rw [HT.out, if_neg (by rw [HR.out]; decide), if_neg (by rintro ⟨g, hg, h9⟩; rw [hl] at hg; cases hg)])
      clear hl
      go_wp2_with fail
      go_quiet (fail)
      go_wp2_with fail
      refine (work_none _ (cutAct n) (HD2.out.drewN _) h1 HR.out HLN.out).mono ?_
      rintro e w3 ⟨rfl, hto⟩
      have HTO := hid hto
      clear hto
      go_wp2_with fail
      go_ret
      rw [HT2.out]
      exact ⟨rfl, HTO.out.behind (HBW.out.trans (bel_drewN _ _ _))⟩
    | some f =>
      obtain ⟨hf, rfl⟩ := PDisk.look_some hl
      obtain ⟨b, hb⟩ := HD2.out.mem hf
      have hlk := HD2.out.find hb
      have HLS := hid hl
      obtain ⟨hl1, hl2⟩ := HW.out.lens hf
      have HF := hid hf
      have HB := hid hb
      have hbk := hid (HD2.out.blk _ hb)
      clear hl hf hb
      unfold ptr at hlk
      by_cases hn : n < 0
      · have d1 : decide (n < 0) = true := by simpa using hn
        have HT2 : Hid (D.truncate f.name n = (D, 6)) := hid (by rw [HT.out, if_neg (by rw [HR.out]; decide), if_pos ⟨f, HLS.out, .inl hn⟩])
        clear hn
        go_wp2_with fail
        go_quiet (fail)
        go_wp2_with fail
        go_ret
        rw [HT2.out]
        exact ⟨rfl, .of_rep (HD2.out.drewN _) (Fr.of_below (HBW.out.trans (bel_drewN _ _ _))) (fun k hk => .inl hk)⟩
      · have d1 : decide (n < 0) = false := by simpa using hn
        by_cases hn2 : (f.size : Int) < n
        · have d2 : decide ((f.size : Int) < n) = true := by simpa using hn2
          have HT2 : Hid (D.truncate f.name n = (D, 6)) := hid (by rw [HT.out, if_neg (by rw [HR.out]; decide), if_pos ⟨f, HLS.out, .inr hn2⟩])
          go_wp2_with fail
          go_quiet ((go_at_call 55; exact Calls.quiet_of (size_any b f _ (Blk.drewN hbk.out _) hl1 hl2)))
          go_wp2_with fail
          go_ret
          rw [HT2.out]
          exact ⟨rfl, .of_rep (HD2.out.drewN _) (Fr.of_below (HBW.out.trans (bel_drewN _ _ _))) (fun k hk => .inl hk)⟩
        · have d2 : decide ((f.size : Int) < n) = false := by simpa using hn2
          have HT2 : Hid (D.truncate f.name n = D.work f.name (cutAct n)) := hid (by rw [HT.out, if_neg (by rw [HR.out]; decide), if_neg (by rintro ⟨g, hg, h9⟩; rw [HLS.out] at hg; injection hg with hg; subst hg; omega)])
          go_wp2_with fail
          go_quiet ((go_at_call 55; exact Calls.quiet_of (size_any b f _ (Blk.drewN hbk.out _) hl1 hl2)))
          go_wp2_with fail
          refine (work_trunc n (HD2.out.drewN _) HW.out h1 HR.out HF.out (by omega) (by omega) (HB2.out.1.drewN _) (HB2.out.2.drewN _)).mono ?_
          rintro e w3 ⟨rfl, hto⟩
          have HTO := hid hto
          clear hto
          go_wp2_with fail
          go_ret
          rw [HT2.out]
          exact ⟨rfl, HTO.out.behind (HBW.out.trans (bel_drewN _ _ _))⟩
  · have HT2 : Hid (D.truncate nm n = (D, D.ready nm)) := hid (by rw [HT.out, if_pos hr])
    have hrb : ((D.ready nm) != 0) = true := by simpa using hr
    go_wp2_with fail
    refine (ready_at nm HD1.out h1).mono ?_
    rintro e w2 ⟨rfl, hd2, hbl2⟩
    have HBW := hid (Below.trans HBL.out (hbl2.mono (by have := HBL.out.size; omega)))
    have HD0 := hid hd2
    clear hbl2 hd2
    go_wp2_with fail
    go_ret
    rw [HT2.out]
    exact ⟨rfl, .of_rep HD0.out (Fr.of_below HBW.out) (fun k hk => .inl hk)⟩
end Go.Proofs.YtgjkjkeeblbjlaaGreatDoor

namespace Go.Proofs.YtgjkjkeeblbjlaaGreatDoor
open Go.RowKit Go.Maps

/-- How much of a file's loose bytes is kept. -/
def kept (keep : List Int) (i : Nat) (n : Nat) : Nat := match keep[i]? with | none => 0 | some k => (max 0 (min k n)).toNat
def PFile.crashed (f : PFile) (k : Nat) : PFile := { f with sure := f.sure ++ f.loose.take k, loose := [] }

theorem kept_le (keep : List Int) (i n : Nat) : kept keep i n ≤ n := by unfold kept; split <;> omega

theorem crashF_cons (keep : List Int) (i : Nat) (f : PFile) (l : List PFile) : crashF keep i (f :: l) = f.crashed (kept keep i f.loose.length) :: crashF keep (i + 1) l := rfl

theorem crashF_app (keep : List Int) : ∀ (a b : List PFile) (i : Nat), crashF keep i (a ++ b) = crashF keep i a ++ crashF keep (i + a.length) b
  | [], b, i => rfl
  | f :: a, b, i => by
    rw [List.cons_append, crashF_cons, crashF_cons, crashF_app keep a b (i + 1), List.cons_append, List.length_cons]
    congr 3; omega

theorem crashed_size (f : PFile) {k : Nat} (h : k ≤ f.loose.length) : (f.crashed k).size = f.sure.length + k := by
  unfold PFile.crashed PFile.size
  simp; omega

/-- The file in its place. -/
theorem putF_at {a b : List PFile} {f f' : PFile} (h : Sorted (a ++ f :: b)) (e : f'.name = f.name) : putF (a ++ f :: b) f' = a ++ f' :: b := by
  induction a with
  | nil => simp [putF, e]
  | cons g a ih =>
    have hc := List.pairwise_cons.1 h
    have hlt := hc.1 f (by simp)
    rw [List.cons_append, putF, if_neg (by rw [e]; intro e2; rw [e2] at hlt; exact List.lt_irrefl _ hlt), if_pos (by rw [e]; exact hlt), ih hc.2, List.cons_append]

/-- Between two rounds of Crash. -/
structure CrashRel (w2 : World) (d m : Nat) (fs : List (Nat × PFile)) (D : PDisk) (N : Int) (keep : List Int) (i : Nat) (fs' : List (Nat × PFile)) (D' : PDisk) (wr : World) : Prop where
  rep : DiskRep wr d m fs' D'
  files : D'.files = crashF keep 0 (D.files.take i) ++ D.files.drop i
  room : D'.room = D.room + sumBlk (D.files.take i) - sumBlk (crashF keep 0 (D.files.take i))
  wf : D'.WF N
  foot : ∀ k, foot d m fs' k ↔ foot d m fs k
  fr : Fr (Go.Proofs.YtgjkjkeeblbjlaaGreatDoor.foot d m fs) w2 wr

theorem in_fr {S : Nat → Prop} {w w' : World} {v : Value} {n size : Nat} {xs : List Value} (h : InRow w v n size xs) (hf : Fr S w w') (hn : ∀ a m cap, v = .slice (some a) m cap → xs ≠ [] → ¬ S a.block) : InRow w' v n size xs := by
  obtain ⟨h1, ad, cap, h2, h3, h4, h5⟩ := h
  refine ⟨h1, ad, cap, h2, h3, h4, fun j u hu => ?_⟩
  obtain ⟨a, ha, hc⟩ := h5 j u hu
  refine ⟨a, ha, ?_⟩
  have hlt : a.block < w.heap.size := World.block_lt_of_cell? w _ hc |> fun h => by
    unfold Addr.add at h
    split at h <;> exact h
  subst ha
  have hb := hf.block a.block hlt (hn a n cap h2 (fun h9 => by rw [h9] at hu; cases hu))
  refine (World.cell?_of_block (a := a.add j) ?_).trans hc
  have e : (a.add j).block = a.block := by unfold Addr.add; split <;> rfl
  rw [e]; exact hb

theorem PDisk.crash_eq {D D' : PDisk} {keep : List Int} (h1 : D'.files = crashF keep 0 D.files) (h2 : D'.room = D.room + sumBlk D.files - sumBlk (crashF keep 0 D.files)) : D.crash keep = { D' with fuse := -1, off := false } := by
  unfold PDisk.crash
  rw [h1, h2]

set_option maxHeartbeats 4000000 in
theorem crash_any (d : Nat) (S : Nat → Prop) (D : PDisk) (N : Int) (kv : Value) (keep : List Int) (w : World) (h : DiskAt w d S D) (hw : D.WF N) (hk : InRow w kv keep.length 1 (keepCells keep)) (hap : ∀ a m cap, kv = .slice (some a) m cap → keepCells keep ≠ [] → ¬ S a.block) :
    Calls Tryz.prog 27 #[ptr d, kv] w fun e w' => e = .returned (.tuple #[]) ∧ DiskTo w w' d S (D.crash keep) := by
  obtain ⟨m, fs, h, hS⟩ := h
  obtain rfl : S = foot d m fs := funext fun k => propext (hS k)
  obtain ⟨c0, c1, c2, c3, f0, f1, f2, f3⟩ := h.cells
  have hcount := hw.count
  have hdlt := h.dlt
  obtain ⟨D0, hown, hsz, hperm⟩ := h.map.own (by rw [List.length_map, h.len]; exact hcount) (by
    intro p hp
    obtain ⟨x, hx, rfl⟩ := List.mem_map.1 hp
    have := okName_len (hw.ok _ (h.mem' hx))
    show x.2.name.length ≤ maxLen
    unfold maxLen; omega)
  have hkeys : (strKeys D0).Perm (D.files.map (·.name)) := by
    refine hperm.trans (List.Perm.of_eq ?_)
    rw [← h.files, List.map_map, List.map_map]
    exact List.map_congr_left fun x _ => tl_bs _
  rw [List.length_map, h.len] at hsz
  have HW := hid hw
  have HKEYS := hid hkeys
  have HFL := hid (fun k hk => h.foot_lt (k := k) hk)
  have hk0 := hk
  obtain ⟨_, kad, kcap, rfl, hk3, hk4, _⟩ := hk0
  have HK := hid hk
  have HAP := hid hap
  clear hw hkeys hperm hS hk hap
  unfold ptr
  go_enter Tryz.func27, Tryz.ntmps27
  go_wp2_with fail
  refine (callsIn_wide.1 (Tryz.maps_Keys_53 (some m) w)).mono ?_
  rintro e w1 ⟨rfl, rfl⟩
  go_wp2_with fail
  refine (callsIn_wide.1 (Tryz.slices_Sorted_keys_52_53 m 256 D0 _ w hown (by rw [hsz]; unfold maxLen; omega) (by omega))).mono ?_
  rintro e w2 ⟨nv, ss, rfl, hss, hrow, _, hbel⟩
  have hsort : ss.mergeSort (fun x y => decide (x ≤ y)) = D.files.map (·.name) := by
    rw [mergeSort_of_perm (hss.trans HKEYS.out)]
    exact mergeSort_sorted ((sorted_names _).1 HW.out.sorted)
  have hlen : ss.length = D.files.length := by have := (hss.trans HKEYS.out).length_eq; simpa using this
  rw [hsort, hlen, List.map_map] at hrow
  obtain ⟨ad, cap, rfl, hcell⟩ : ∃ ad cap, nv = .slice ad D.files.length cap ∧ ∀ k f, D.files[k]? = some f → ∃ g, ad = some ⟨g, 0, none⟩ ∧ w.heap.size ≤ g ∧ w2.cell? ⟨g, k, none⟩ = some (.string (bs f.name)) := by
    rcases Joins.ownsRow_forms hrow with ⟨e, hz⟩ | ⟨g, cap, rfl⟩
    · refine ⟨none, 0, by rw [e, hz], fun k f hk => ?_⟩
      have := (List.getElem?_eq_some_iff.1 hk).1
      omega
    · refine ⟨_, cap, rfl, fun k f hk => ⟨g, rfl, ?_, ?_⟩⟩
      · have := (hrow.lt g rfl).1
        simp at this
        omega
      · have hk1 := (List.getElem?_eq_some_iff.1 hk).1
        rw [hrow.cellAt k (by omega), List.getElem?_map, hk]
        rfl
  have HCELL := hid hcell
  have hb2 : Below w.heap.size w w2 := bel_next (bel_alloc (Below.refl _ _) _) hbel
  have HB2 := hid hb2
  have hdisk := h.below hb2
  have HD := hid hdisk
  have hsz2 := hb2.size
  clear hcell hbel hrow hss hsort hlen hown hdisk h c0 c1 c2 c3 f0 f1 f2 f3 hb2
  go_wp2_with fail
  go_loopw [17] (fun a wr => ∃ (k : Nat) (fs' : List (Nat × PFile)) (D' : PDisk), k ≤ D.files.length ∧ a = .int .i64 k ∧ CrashRel w2 d m fs D N keep k fs' D' wr) (fun a _ => D.files.length - (intOf a).toNat)
  case atStart => exact ⟨0, fs, D, by omega, rfl, HD.out, rfl, by simp [sumBlk, crashF], HW.out, fun _ => Iff.rfl, Fr.refl _ _⟩
  case round =>
    obtain ⟨k, fs', D', hk, rfl, hrel⟩ := hrel
    have HREL := hid hrel
    clear hrel
    by_cases hlt : k < D.files.length
    · have hf0 : D.files[k]? = some D.files[k] := List.getElem?_eq_getElem hlt
      have hdr : D.files.drop k = D.files[k] :: D.files.drop (k + 1) := List.drop_eq_getElem_cons hlt
      have htk : D.files.take (k + 1) = D.files.take k ++ [D.files[k]] := List.take_succ_eq_append_getElem hlt
      obtain ⟨g, rfl, hg0, hc⟩ := HCELL.out k _ hf0
      generalize D.files[k] = f at hf0 hdr htk hc
      have hfd : D'.files = crashF keep 0 (D.files.take k) ++ f :: D.files.drop (k + 1) := by rw [HREL.out.files, hdr]
      have hfm : f ∈ D'.files := by rw [hfd]; simp
      obtain ⟨b, hbm⟩ := HREL.out.rep.mem hfm
      obtain ⟨hl1, hl2⟩ := HREL.out.wf.lens hfm
      have hfs := HREL.out.wf.fsize hfm
      obtain ⟨c0, c1, c2, c3, f0, f1, f2, f3⟩ := HREL.out.rep.cells
      have hlk := HREL.out.rep.find hbm
      unfold ptr at hlk
      have hbk := HREL.out.rep.blk _ hbm
      have b0 := hbk.cell (i := 0) (v := .string (bs f.sure)) rfl
      have b1 := hbk.cell (i := 1) (v := .string (bs f.loose)) rfl
      have hgl : g < w2.heap.size := World.block_lt_of_cell? w2 _ hc
      have n0 : wr.cell? ⟨g, k, none⟩ = some (.string (bs f.name)) := (World.cell?_of_block (a := ⟨g, k, none⟩) (HREL.out.fr.block g hgl (fun h9 => by have := HFL.out _ h9; omega))).trans hc
      have hin := in_fr HK.out ((Fr.of_below (S := foot d m fs) HB2.out).trans HREL.out.fr) HAP.out
      have HFD := hid hfd
      have HTK := hid htk
      have HBK := hid (And.intro hbk hbm)
      have hkl := kept_le keep k f.loose.length
      have hk0 : (0 : Int) ≤ (k : Int) := by omega
      have hk1 : (k : Int) < (D.files.length : Int) := by omega
      have s1 : (bs f.loose).size = f.loose.length := rfl
      clear hf0 hdr htk hc hfd hfm hbk hbm
      rcases (show (∃ a x, keep[k]? = some x ∧ kad = some a ∧ wr.cell? (a.add k) = some (.int .i64 x) ∧ ((kept keep k f.loose.length : Nat) : Int) = max 0 (min x (f.loose.length : Int)) ∧ k < keep.length) ∨ (kept keep k f.loose.length = 0 ∧ ¬ k < keep.length) by
        by_cases h9 : k < keep.length
        · obtain ⟨_, ad2, cap2, e2, _, _, hc2⟩ := hin
          injection e2 with e2
          subst e2
          obtain ⟨a, ha, hca⟩ := hc2 k (.int .i64 keep[k]) (by unfold keepCells; rw [List.getElem?_map, List.getElem?_eq_getElem h9]; rfl)
          refine .inl ⟨a, keep[k], List.getElem?_eq_getElem h9, ha, hca, ?_, h9⟩
          unfold kept
          rw [List.getElem?_eq_getElem h9]
          simp only
          omega
        · refine .inr ⟨?_, h9⟩
          unfold kept
          rw [List.getElem?_eq_none (by omega)]) with ⟨a, x, hx, rfl, hca, hmx, h9⟩ | ⟨hz, h9⟩
      · have hd1 : decide (k < keep.length) = true := by simpa using h9
        have hk2 : (k : Int) < (keep.length : Int) := by omega
        have HX := hid hx
        have HMX := hid hmx
        clear hx hmx hin
        go_wp2_with fail
        go_quiet (fail)
        go_upto_region 8 with fail
        rw [← HMX.out]
        have HR2 := hid (show ∀ n, CrashRel w2 d m fs D N keep k fs' D' (wr.drewN n) from fun n => ⟨HREL.out.rep.drewN _, HREL.out.files, HREL.out.room, HREL.out.wf, HREL.out.foot, HREL.out.fr.drewN _⟩)
        have HBK2 := hid (fun n => And.intro (HBK.out.1.drewN n) HBK.out.2)
        clear HREL HBK c0 c1 c2 c3 f0 f1 f2 f3 hlk b0 b1 n0 hca hd1 hlt HX HMX
        have HR2 := hid (HR2.out nq)
        have HBK2 := hid (HBK2.out nq)
        generalize wr.drewN nq = W at HR2 HBK2 ⊢
        have HW1 : 0 ≤ D'.room ∧ D'.room ≤ 16384 := ⟨HR2.out.wf.room, HR2.out.wf.room_le⟩
        obtain ⟨w1a, w1b⟩ := HW1
        have hub := blk_ub (n := (f.size : Int)) (by omega)
        have hbp := blk_pos (f.size : Int)
        have hdb : d ≠ b := fun e => HR2.out.rep.bd HBK2.out.2 e.symm
        obtain ⟨c0, c1, c2, c3, f0, f1, f2, f3⟩ := HR2.out.rep.cells
        have hwr1 : IntKind.i64.wrap (D'.room + blk (f.size : Int)) = D'.room + blk (f.size : Int) := IntWalk.i64_in _ (by omega)
        have hwr2 : wrap64 (D'.room + blk (f.size : Int)) = D'.room + blk (f.size : Int) := IntWalk.wrap64_in _ (by omega)
        refine wp_region_quiet_tail 10 (by kernel_rfl) (by kernel_rfl) ?_
        simp only [List.take_succ_cons, List.take_zero, List.drop_succ_cons, List.drop_zero]
        repeat (any_goals (quiet_step ((first
            | (go_at_call 55; exact Calls.quiet_of (size_any b f _ (Blk.drewN HBK2.out.1 _) hl1 hl2))
            | (go_at_call 54; exact Calls.quiet_of_same ((blocks_any _ _ (by omega) (by omega)).mono (fun _ _ h => ⟨h.1, h.2.symm⟩)))))))
        refine wpQuiet_nil ?_
        rintro w' ⟨nq8, rfl⟩
        go_upto_region 9 with fail
        clear hwr1 hwr2
        have hf1 : Fr (fun k => k = d) W ((W.drewN nq8).setCell ⟨d, 1, none⟩ (.int .i64 (D'.room + blk (f.size : Int)))) := Fr.setCell (S := fun k => k = d) (p := ⟨d, 1, none⟩) ((Fr.refl _ W).drewN nq8) (.inl rfl) _
        have hb1 : Blk ((W.drewN nq8).setCell ⟨d, 1, none⟩ (.int .i64 (D'.room + blk (f.size : Int)))) d #[.map (some m), .int .i64 (D'.room + blk (f.size : Int)), .int .i64 D'.fuse, .bool D'.off] 96 := (HR2.out.rep.hdr.drewN nq8).set 1 _
        have hrep1 := HR2.out.rep.set hf1 hb1
        have hbk1 := HBK2.out.1.fr hf1 (fun e => hdb e.symm)
        generalize (W.drewN nq8).setCell ⟨d, 1, none⟩ (.int .i64 (D'.room + blk (f.size : Int))) = W1 at *
        have q0 := hbk1.cell (i := 0) (v := .string (bs f.sure)) rfl
        have q1 := hbk1.cell (i := 1) (v := .string (bs f.loose)) rfl
        have j0 := hbk1.free 0
        have j1 := hbk1.free 1
        have hblt := hbk1.lt
        have HR3 := hid hrep1
        have HB3 := hid hbk1
        have HF3 := hid hf1
        generalize hkk : kept keep k f.loose.length = kk at hkl ⊢
        have HKK := hid hkk
        have kz : (0 : Int) ≤ (kk : Int) := Int.natCast_nonneg _
        have s0 : (bs f.sure).size = f.sure.length := rfl
        have s2 : ((bs f.loose).extract 0 kk).size = kk := by rw [extract_take, bs_size, tl_bs, List.length_take]; omega
        have hcat : (bs f.sure).size + ((bs f.loose).extract 0 kk).size ≤ 9223372036854775807 := by rw [s2, s0]; omega
        have hcat2 : ¬ 9223372036854775807 < (bs f.sure).size + ((bs f.loose).extract 0 kk).size := by omega
        clear hrep1 hbk1 hf1 hb1 c0 c1 c2 c3 f0 f1 f2 f3 hkk
        go_region
        go_upto_region 10 with fail
        have hkl0 := hkl
        have hfr9 : Fr (fun k => k = b) W1 ((W1.setCell ⟨b, 0, none⟩ (.string (bs f.sure ++ (bs f.loose).extract 0 kk))).setCell ⟨b, 1, none⟩ (.string ⟨#[]⟩)).drew := (fr_two (S := fun k => k = b) (a := ⟨b, 0, none⟩) (b := ⟨b, 1, none⟩) rfl rfl).drew
        have hb9 : Blk ((W1.setCell ⟨b, 0, none⟩ (.string (bs f.sure ++ (bs f.loose).extract 0 kk))).setCell ⟨b, 1, none⟩ (.string ⟨#[]⟩)).drew b #[.string (bs (f.crashed kk).sure), .string (bs (f.crashed kk).loose)] 119 := by
          have h9 := ((HB3.out.set 0 (.string (bs f.sure ++ (bs f.loose).extract 0 kk))).set 1 (.string ⟨#[]⟩)).drew
          rw [extract_take, tl_bs, bs_append] at h9 ⊢
          exact h9
        obtain ⟨fs1, hrep9, hft⟩ := HR3.out.put (f' := f.crashed kk) HR2.out.wf.sorted HBK2.out.2 rfl hfr9 hb9
        have HR9 := hid hrep9
        have HFT := hid hft
        have HF9 := hid (show Fr (foot d m fs') W1 _ from hfr9.mono (by rintro j _ rfl; exact .inr (.inr (List.mem_map.2 ⟨_, HBK2.out.2, rfl⟩))))
        have HB9 := hid hb9
        clear hrep9 hft hfr9 hb9 q0 q1 j0 j1 hcat hcat2 s2
        generalize ((W1.setCell ⟨b, 0, none⟩ (.string (bs f.sure ++ (bs f.loose).extract 0 kk))).setCell ⟨b, 1, none⟩ (.string ⟨#[]⟩)).drew = W2 at HR9 HF9 HB9 ⊢
        have hz9 := crashed_size f hkl0
        have hz8 : f.size = f.sure.length + f.loose.length := rfl
        have hl3 : (f.crashed kk).sure.length ≤ 1048576 := by
          have h9 : (f.crashed kk).size = (f.crashed kk).sure.length + 0 := rfl
          omega
        have hl4 : (f.crashed kk).loose.length ≤ 1048576 := by show 0 ≤ _; omega
        have hub2 := blk_ub (n := ((f.crashed kk).size : Int)) (by omega)
        have hbp2 := blk_pos ((f.crashed kk).size : Int)
        have hmono := blk_mono (a := ((f.crashed kk).size : Int)) (b := (f.size : Int)) (by omega)
        obtain ⟨c0, c1, c2, c3, f0, f1, f2, f3⟩ := HR9.out.cells
        have hwr1 : IntKind.i64.wrap (D'.room + blk (f.size : Int) - blk ((f.crashed kk).size : Int)) = D'.room + blk (f.size : Int) - blk ((f.crashed kk).size : Int) := IntWalk.i64_in _ (by omega)
        have hwr2 : wrap64 (D'.room + blk (f.size : Int) - blk ((f.crashed kk).size : Int)) = D'.room + blk (f.size : Int) - blk ((f.crashed kk).size : Int) := IntWalk.wrap64_in _ (by omega)
        have hsz6 : ((f.crashed kk).size : Int) ≤ 1048576 := by omega
        clear hz9 hz8
        refine wp_region_quiet_tail 10 (by kernel_rfl) (by kernel_rfl) ?_
        simp only [List.take_succ_cons, List.take_zero, List.drop_succ_cons, List.drop_zero]
        repeat (any_goals (quiet_step ((first
            | (go_at_call 55; exact Calls.quiet_of (size_any b (f.crashed kk) _ (Blk.drewN HB9.out _) hl3 hl4))
            | (go_at_call 54; exact Calls.quiet_of_same ((blocks_any _ _ (by omega) (by omega)).mono (fun _ _ h => ⟨h.1, h.2.symm⟩)))))))
        refine wpQuiet_nil ?_
        rintro w' ⟨nq10, rfl⟩
        go_wp2_with fail
        go_roundw
        case rel =>
          have hf10 : Fr (fun k => k = d) W2 ((W2.drewN nq10).setCell ⟨d, 1, none⟩ (.int .i64 (D'.room + blk (f.size : Int) - blk ((f.crashed kk).size : Int)))) := Fr.setCell (S := fun k => k = d) (p := ⟨d, 1, none⟩) ((Fr.refl _ W2).drewN nq10) (.inl rfl) _
          have hb10 : Blk ((W2.drewN nq10).setCell ⟨d, 1, none⟩ (.int .i64 (D'.room + blk (f.size : Int) - blk ((f.crashed kk).size : Int)))) d #[.map (some m), .int .i64 (D'.room + blk (f.size : Int) - blk ((f.crashed kk).size : Int)), .int .i64 D'.fuse, .bool D'.off] 96 := (HR9.out.hdr.drewN nq10).set 1 _
          have hrep10 := HR9.out.set hf10 hb10
          have hfm : f ∈ D'.files := by rw [HFD.out]; simp
          have hkl3 : (D.files.take k).length = k := by rw [List.length_take]; omega
          refine ⟨k + 1, fs1, _, by omega, by go_num, hrep10, ?_, ?_, HR2.out.wf.put (f' := f.crashed kk) hfm rfl rfl (by omega), fun j => (HFT.out j).trans (HR2.out.foot j), ?_⟩
          · show putF D'.files (f.crashed kk) = _
            rw [HFD.out, putF_at (f := f) (f' := f.crashed kk) (by rw [← HFD.out]; exact HR2.out.wf.sorted) rfl, HTK.out, crashF_app, hkl3, Nat.zero_add]
            show _ = (_ ++ [f.crashed (kept keep k f.loose.length)]) ++ _
            rw [HKK.out]; simp
          · show D'.room + blk (f.size : Int) - blk ((f.crashed kk).size : Int) = _
            rw [HR2.out.room, HTK.out, sumBlk_append, crashF_app, sumBlk_append, hkl3, Nat.zero_add]
            have e1 : crashF keep k [f] = [f.crashed kk] := by rw [crashF_cons, HKK.out]; rfl
            rw [e1]
            simp only [sumBlk_cons]
            have e2 : sumBlk [] = 0 := rfl
            rw [e2]; omega
          · refine (HR2.out.fr.trans (HF3.out.mono (by rintro j _ rfl; exact .inl rfl))).trans ((HF9.out.mono (fun j _ h => (HR2.out.foot j).1 h)).trans (hf10.mono (by rintro j _ rfl; exact .inl rfl)))
        case measure => simp [intOf]; omega
      · have hd1 : decide (k < keep.length) = false := by simpa using h9
        have HZ := hid hz
        clear hin hz
        go_upto_region 8 with fail
        rw [show (Value.int .i64 0) = Value.int .i64 ((kept keep k f.loose.length : Nat) : Int) by rw [HZ.out]; rfl]
        have HR2 : Hid (CrashRel w2 d m fs D N keep k fs' D' wr) := HREL
        have HBK2 : Hid (Blk wr b #[.string (bs f.sure), .string (bs f.loose)] 119 ∧ (b, f) ∈ fs') := HBK
        clear HREL HBK c0 c1 c2 c3 f0 f1 f2 f3 hlk b0 b1 n0 hd1 hlt
        generalize wr = W at HR2 HBK2 ⊢
        have HW1 : 0 ≤ D'.room ∧ D'.room ≤ 16384 := ⟨HR2.out.wf.room, HR2.out.wf.room_le⟩
        obtain ⟨w1a, w1b⟩ := HW1
        have hub := blk_ub (n := (f.size : Int)) (by omega)
        have hbp := blk_pos (f.size : Int)
        have hdb : d ≠ b := fun e => HR2.out.rep.bd HBK2.out.2 e.symm
        obtain ⟨c0, c1, c2, c3, f0, f1, f2, f3⟩ := HR2.out.rep.cells
        have hwr1 : IntKind.i64.wrap (D'.room + blk (f.size : Int)) = D'.room + blk (f.size : Int) := IntWalk.i64_in _ (by omega)
        have hwr2 : wrap64 (D'.room + blk (f.size : Int)) = D'.room + blk (f.size : Int) := IntWalk.wrap64_in _ (by omega)
        refine wp_region_quiet_tail 10 (by kernel_rfl) (by kernel_rfl) ?_
        simp only [List.take_succ_cons, List.take_zero, List.drop_succ_cons, List.drop_zero]
        repeat (any_goals (quiet_step ((first
            | (go_at_call 55; exact Calls.quiet_of (size_any b f _ (Blk.drewN HBK2.out.1 _) hl1 hl2))
            | (go_at_call 54; exact Calls.quiet_of_same ((blocks_any _ _ (by omega) (by omega)).mono (fun _ _ h => ⟨h.1, h.2.symm⟩)))))))
        refine wpQuiet_nil ?_
        rintro w' ⟨nq8, rfl⟩
        go_upto_region 9 with fail
        clear hwr1 hwr2
        have hf1 : Fr (fun k => k = d) W ((W.drewN nq8).setCell ⟨d, 1, none⟩ (.int .i64 (D'.room + blk (f.size : Int)))) := Fr.setCell (S := fun k => k = d) (p := ⟨d, 1, none⟩) ((Fr.refl _ W).drewN nq8) (.inl rfl) _
        have hb1 : Blk ((W.drewN nq8).setCell ⟨d, 1, none⟩ (.int .i64 (D'.room + blk (f.size : Int)))) d #[.map (some m), .int .i64 (D'.room + blk (f.size : Int)), .int .i64 D'.fuse, .bool D'.off] 96 := (HR2.out.rep.hdr.drewN nq8).set 1 _
        have hrep1 := HR2.out.rep.set hf1 hb1
        have hbk1 := HBK2.out.1.fr hf1 (fun e => hdb e.symm)
        generalize (W.drewN nq8).setCell ⟨d, 1, none⟩ (.int .i64 (D'.room + blk (f.size : Int))) = W1 at *
        have q0 := hbk1.cell (i := 0) (v := .string (bs f.sure)) rfl
        have q1 := hbk1.cell (i := 1) (v := .string (bs f.loose)) rfl
        have j0 := hbk1.free 0
        have j1 := hbk1.free 1
        have hblt := hbk1.lt
        have HR3 := hid hrep1
        have HB3 := hid hbk1
        have HF3 := hid hf1
        generalize hkk : kept keep k f.loose.length = kk at hkl ⊢
        have HKK := hid hkk
        have kz : (0 : Int) ≤ (kk : Int) := Int.natCast_nonneg _
        have s0 : (bs f.sure).size = f.sure.length := rfl
        have s2 : ((bs f.loose).extract 0 kk).size = kk := by rw [extract_take, bs_size, tl_bs, List.length_take]; omega
        have hcat : (bs f.sure).size + ((bs f.loose).extract 0 kk).size ≤ 9223372036854775807 := by rw [s2, s0]; omega
        have hcat2 : ¬ 9223372036854775807 < (bs f.sure).size + ((bs f.loose).extract 0 kk).size := by omega
        clear hrep1 hbk1 hf1 hb1 c0 c1 c2 c3 f0 f1 f2 f3 hkk
        go_region
        go_upto_region 10 with fail
        have hkl0 := hkl
        have hfr9 : Fr (fun k => k = b) W1 ((W1.setCell ⟨b, 0, none⟩ (.string (bs f.sure ++ (bs f.loose).extract 0 kk))).setCell ⟨b, 1, none⟩ (.string ⟨#[]⟩)).drew := (fr_two (S := fun k => k = b) (a := ⟨b, 0, none⟩) (b := ⟨b, 1, none⟩) rfl rfl).drew
        have hb9 : Blk ((W1.setCell ⟨b, 0, none⟩ (.string (bs f.sure ++ (bs f.loose).extract 0 kk))).setCell ⟨b, 1, none⟩ (.string ⟨#[]⟩)).drew b #[.string (bs (f.crashed kk).sure), .string (bs (f.crashed kk).loose)] 119 := by
          have h9 := ((HB3.out.set 0 (.string (bs f.sure ++ (bs f.loose).extract 0 kk))).set 1 (.string ⟨#[]⟩)).drew
          rw [extract_take, tl_bs, bs_append] at h9 ⊢
          exact h9
        obtain ⟨fs1, hrep9, hft⟩ := HR3.out.put (f' := f.crashed kk) HR2.out.wf.sorted HBK2.out.2 rfl hfr9 hb9
        have HR9 := hid hrep9
        have HFT := hid hft
        have HF9 := hid (show Fr (foot d m fs') W1 _ from hfr9.mono (by rintro j _ rfl; exact .inr (.inr (List.mem_map.2 ⟨_, HBK2.out.2, rfl⟩))))
        have HB9 := hid hb9
        clear hrep9 hft hfr9 hb9 q0 q1 j0 j1 hcat hcat2 s2
        generalize ((W1.setCell ⟨b, 0, none⟩ (.string (bs f.sure ++ (bs f.loose).extract 0 kk))).setCell ⟨b, 1, none⟩ (.string ⟨#[]⟩)).drew = W2 at HR9 HF9 HB9 ⊢
        have hz9 := crashed_size f hkl0
        have hz8 : f.size = f.sure.length + f.loose.length := rfl
        have hl3 : (f.crashed kk).sure.length ≤ 1048576 := by
          have h9 : (f.crashed kk).size = (f.crashed kk).sure.length + 0 := rfl
          omega
        have hl4 : (f.crashed kk).loose.length ≤ 1048576 := by show 0 ≤ _; omega
        have hub2 := blk_ub (n := ((f.crashed kk).size : Int)) (by omega)
        have hbp2 := blk_pos ((f.crashed kk).size : Int)
        have hmono := blk_mono (a := ((f.crashed kk).size : Int)) (b := (f.size : Int)) (by omega)
        obtain ⟨c0, c1, c2, c3, f0, f1, f2, f3⟩ := HR9.out.cells
        have hwr1 : IntKind.i64.wrap (D'.room + blk (f.size : Int) - blk ((f.crashed kk).size : Int)) = D'.room + blk (f.size : Int) - blk ((f.crashed kk).size : Int) := IntWalk.i64_in _ (by omega)
        have hwr2 : wrap64 (D'.room + blk (f.size : Int) - blk ((f.crashed kk).size : Int)) = D'.room + blk (f.size : Int) - blk ((f.crashed kk).size : Int) := IntWalk.wrap64_in _ (by omega)
        have hsz6 : ((f.crashed kk).size : Int) ≤ 1048576 := by omega
        clear hz9 hz8
        refine wp_region_quiet_tail 10 (by kernel_rfl) (by kernel_rfl) ?_
        simp only [List.take_succ_cons, List.take_zero, List.drop_succ_cons, List.drop_zero]
        repeat (any_goals (quiet_step ((first
            | (go_at_call 55; exact Calls.quiet_of (size_any b (f.crashed kk) _ (Blk.drewN HB9.out _) hl3 hl4))
            | (go_at_call 54; exact Calls.quiet_of_same ((blocks_any _ _ (by omega) (by omega)).mono (fun _ _ h => ⟨h.1, h.2.symm⟩)))))))
        refine wpQuiet_nil ?_
        rintro w' ⟨nq10, rfl⟩
        go_wp2_with fail
        go_roundw
        case rel =>
          have hf10 : Fr (fun k => k = d) W2 ((W2.drewN nq10).setCell ⟨d, 1, none⟩ (.int .i64 (D'.room + blk (f.size : Int) - blk ((f.crashed kk).size : Int)))) := Fr.setCell (S := fun k => k = d) (p := ⟨d, 1, none⟩) ((Fr.refl _ W2).drewN nq10) (.inl rfl) _
          have hb10 : Blk ((W2.drewN nq10).setCell ⟨d, 1, none⟩ (.int .i64 (D'.room + blk (f.size : Int) - blk ((f.crashed kk).size : Int)))) d #[.map (some m), .int .i64 (D'.room + blk (f.size : Int) - blk ((f.crashed kk).size : Int)), .int .i64 D'.fuse, .bool D'.off] 96 := (HR9.out.hdr.drewN nq10).set 1 _
          have hrep10 := HR9.out.set hf10 hb10
          have hfm : f ∈ D'.files := by rw [HFD.out]; simp
          have hkl3 : (D.files.take k).length = k := by rw [List.length_take]; omega
          refine ⟨k + 1, fs1, _, by omega, by go_num, hrep10, ?_, ?_, HR2.out.wf.put (f' := f.crashed kk) hfm rfl rfl (by omega), fun j => (HFT.out j).trans (HR2.out.foot j), ?_⟩
          · show putF D'.files (f.crashed kk) = _
            rw [HFD.out, putF_at (f := f) (f' := f.crashed kk) (by rw [← HFD.out]; exact HR2.out.wf.sorted) rfl, HTK.out, crashF_app, hkl3, Nat.zero_add]
            show _ = (_ ++ [f.crashed (kept keep k f.loose.length)]) ++ _
            rw [HKK.out]; simp
          · show D'.room + blk (f.size : Int) - blk ((f.crashed kk).size : Int) = _
            rw [HR2.out.room, HTK.out, sumBlk_append, crashF_app, sumBlk_append, hkl3, Nat.zero_add]
            have e1 : crashF keep k [f] = [f.crashed kk] := by rw [crashF_cons, HKK.out]; rfl
            rw [e1]
            simp only [sumBlk_cons]
            have e2 : sumBlk [] = 0 := rfl
            rw [e2]; omega
          · refine (HR2.out.fr.trans (HF3.out.mono (by rintro j _ rfl; exact .inl rfl))).trans ((HF9.out.mono (fun j _ h => (HR2.out.foot j).1 h)).trans (hf10.mono (by rintro j _ rfl; exact .inl rfl)))
        case measure => simp [intOf]; omega
    · obtain rfl : k = D.files.length := by omega
      obtain ⟨c0, c1, c2, c3, f0, f1, f2, f3⟩ := HREL.out.rep.cells
      have h1 := HREL.out.files
      have h2 := HREL.out.room
      rw [List.take_length] at h1 h2
      rw [List.drop_length, List.append_nil] at h1
      have HQ := hid (PDisk.crash_eq h1 h2)
      clear h1 h2
      go_wp2_with fail
      have hf : Fr (fun k => k = d) wr ((wr.setCell ⟨d, 3, none⟩ (.bool false)).setCell ⟨d, 2, none⟩ (.int .i64 (-1))) := fr_two (S := fun k => k = d) (a := ⟨d, 3, none⟩) (b := ⟨d, 2, none⟩) rfl rfl
      have hrep := HREL.out.rep.set hf ((HREL.out.rep.hdr.set 3 (.bool false)).set 2 (.int .i64 (-1)))
      refine ⟨rfl, .tuple #[], by simp [results, Tryz.results27, go_sem], rfl, ?_⟩
      rw [HQ.out]
      refine .of_rep hrep (((Fr.of_below HB2.out).trans HREL.out.fr).trans (hf.mono (by rintro j _ rfl; exact .inl rfl))) (fun j hj => .inl ((HREL.out.foot j).1 hj))
end Go.Proofs.YtgjkjkeeblbjlaaGreatDoor
