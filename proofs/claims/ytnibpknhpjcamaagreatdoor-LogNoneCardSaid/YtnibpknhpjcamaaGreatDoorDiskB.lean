/-
  disk: work, Sync, Truncate, Read: the walks. Conditions: texts that fit.
-/
import Derived.Test.YtnibpknhpjcamaaGreatDoorDiskA
set_option maxRecDepth 100000
namespace Go.Proofs.YtnibpknhpjcamaaGreatDoor
open Go.RowKit

theorem PDisk.work_not {D : PDisk} {nm : List UInt8} (act : PDisk → PFile → PDisk) (h : ¬ D.ready nm = 0) : D.work nm act = (D, D.ready nm) := by
  unfold PDisk.work; rw [if_pos h]
theorem PDisk.work_none {D : PDisk} {nm : List UInt8} (act : PDisk → PFile → PDisk) (h : D.ready nm = 0) (hl : D.look nm = none) : D.work nm act = (D, 3) := by
  unfold PDisk.work; rw [if_neg (by rw [h]; decide), hl]
theorem PDisk.work_some {D : PDisk} {nm : List UInt8} (act : PDisk → PFile → PDisk) {f : PFile} (h : D.ready nm = 0) (hl : D.look nm = some f) :
    D.work nm act = if D.burn.2 then (act D.burn.1 f, 0) else (D.burn.1, 4) := by
  unfold PDisk.work; rw [if_neg (by rw [h]; decide), hl]

set_option maxHeartbeats 2000000 in
theorem sync1_any {d m : Nat} {fs : List (Nat × PFile)} {D : PDisk} {N : Int} {b : Nat} {f : PFile} {w : World} (h : DiskRep w d m fs D) (hw : D.WF N) (hb : (b, f) ∈ fs) :
    Calls Tryz.prog 97 #[ptr b] w fun e w' => e = .returned (.int .i64 0) ∧ DiskTo w w' d (foot d m fs) { D with files := putF D.files { f with sure := f.sure ++ f.loose, loose := [] } } := by
  obtain ⟨hl1, hl2⟩ := hw.lens (f := f) (h.mem' hb)
  have hbk := h.blk _ hb
  have c0 := hbk.cell (i := 0) (v := .string (bs f.sure)) rfl
  have c1 := hbk.cell (i := 1) (v := .string (bs f.loose)) rfl
  have e0 := hbk.free 0
  have e1 := hbk.free 1
  have s0 : (bs f.sure).size = f.sure.length := rfl
  have s1 : (bs f.loose).size = f.loose.length := rfl
  have hcat : (bs f.sure).size + (bs f.loose).size ≤ 9223372036854775807 := by omega
  have hcat2 : ¬ 9223372036854775807 < (bs f.sure).size + (bs f.loose).size := by omega
  unfold ptr
  go_enter Tryz.func97, Tryz.ntmps97
  go_wp2_with fail
  go_region
  go_wp2_with fail
  go_ret
  refine ⟨rfl, ?_⟩
  have hfr : Fr (fun k => k = b) w ((w.setCell ⟨b, 0, none⟩ (.string (bs f.sure ++ bs f.loose))).setCell ⟨b, 1, none⟩ (.string ⟨#[]⟩)).drew := (fr_two (S := fun k => k = b) (a := ⟨b, 0, none⟩) (b := ⟨b, 1, none⟩) rfl rfl).drew
  obtain ⟨fs1, hrep, hft⟩ := h.put (f' := { f with sure := f.sure ++ f.loose, loose := [] }) hw.sorted hb rfl hfr (by
    have := ((hbk.set 0 (.string (bs f.sure ++ bs f.loose))).set 1 (.string ⟨#[]⟩)).drew
    rw [bs_append] at this ⊢
    exact this)
  exact .of_rep hrep (hfr.mono (by rintro k _ rfl; exact .inr (.inr (List.mem_map.2 ⟨_, hb, rfl⟩)))) (fun k hk => .inl ((hft k).1 hk))

set_option maxHeartbeats 2000000 in
theorem work_sync {d m : Nat} {fs : List (Nat × PFile)} {D : PDisk} {N : Int} {f : PFile} {w : World} (h : DiskRep w d m fs D) (hw : D.WF N) (h1 : f.name.length ≤ 1099511627776) (hr : D.ready f.name = 0) (hf : f ∈ D.files) :
    Calls Tryz.prog 96 #[ptr d, .string (bs f.name), .func (.func 97) #[] #[]] w fun e w' => e = .returned (.int .i64 (D.work f.name (fun D f => { D with files := putF D.files { f with sure := f.sure ++ f.loose, loose := [] } })).2) ∧ DiskTo w w' d (foot d m fs) (D.work f.name (fun D f => { D with files := putF D.files { f with sure := f.sure ++ f.loose, loose := [] } })).1 := by
  have HF := hid (PDisk.work_some (fun D f => { D with files := putF D.files { f with sure := f.sure ++ f.loose, loose := [] } }) hr (PDisk.look_mem hw.sorted hf))
  obtain ⟨b, hb⟩ := h.mem hf
  have HW := hid hw
  clear hw
  unfold ptr
  go_enter Tryz.func96, Tryz.ntmps96
  go_wp2_with fail
  refine (ready_at f.name h h1).mono ?_
  rintro e w1 ⟨rfl, hd, hbl⟩
  rw [hr]
  obtain ⟨c0, c1, c2, c3, f0, f1, f2, f3⟩ := hd.cells
  have hlk := hd.find hb
  unfold ptr at hlk
  go_wp2_with fail
  refine (burn_any d m fs D _ hd HW.out.fuse HW.out.fuse').mono ?_
  rintro e w2 ⟨rfl, hrep2, hf2⟩
  have hto : DiskTo w w2 d (foot d m fs) D.burn.1 := .of_rep hrep2 ((Fr.of_below hbl).trans (hf2.mono (by rintro k _ rfl; exact .inl rfl))) (fun k hk => .inl hk)
  cases hb2 : D.burn.2 with
  | true =>
    rw [hb2] at HF
    go_wp2_with fail
    refine (sync1_any hrep2 HW.out.burn hb).mono ?_
    rintro e w3 ⟨rfl, hto2⟩
    go_wp2_with fail
    go_ret
    rw [HF.out]
    refine ⟨rfl, ?_⟩
    obtain ⟨S1, a1, r1, s1⟩ := hto
    obtain ⟨S2, a2, r2, s2⟩ := hto2
    have hsz := r1.size
    have hfm : Fr (foot d m fs) w w2 := r1
    exact ⟨S2, a2, hfm.trans r2, fun k hk => (s2 k hk).elim .inl (fun h => .inr (by omega))⟩
  | false =>
    rw [hb2] at HF
    go_wp2_with fail
    go_ret
    rw [HF.out]
    exact ⟨rfl, hto⟩

set_option maxHeartbeats 2000000 in
theorem work_not {d m : Nat} {fs : List (Nat × PFile)} {D : PDisk} {nm : List UInt8} {w : World} (fv : Value) (act : PDisk → PFile → PDisk) (h : DiskRep w d m fs D) (h1 : nm.length ≤ 1099511627776) (hr : ¬ D.ready nm = 0) :
    Calls Tryz.prog 96 #[ptr d, .string (bs nm), fv] w fun e w' => e = .returned (.int .i64 (D.work nm act).2) ∧ DiskTo w w' d (foot d m fs) (D.work nm act).1 := by
  have HF := hid (PDisk.work_not act hr)
  unfold ptr
  go_enter Tryz.func96, Tryz.ntmps96
  go_wp2_with fail
  refine (ready_at nm h h1).mono ?_
  rintro e w1 ⟨rfl, hd, hbl⟩
  go_wp2_with fail
  go_ret
  rw [HF.out]
  exact ⟨rfl, .of_below ⟨m, fs, h, fun _ => Iff.rfl⟩ hbl⟩

set_option maxHeartbeats 2000000 in
theorem work_none {d m : Nat} {fs : List (Nat × PFile)} {D : PDisk} {nm : List UInt8} {w : World} (fv : Value) (act : PDisk → PFile → PDisk) (h : DiskRep w d m fs D) (h1 : nm.length ≤ 1099511627776) (hr : D.ready nm = 0) (hl : D.look nm = none) :
    Calls Tryz.prog 96 #[ptr d, .string (bs nm), fv] w fun e w' => e = .returned (.int .i64 (D.work nm act).2) ∧ DiskTo w w' d (foot d m fs) (D.work nm act).1 := by
  have HF := hid (PDisk.work_none act hr hl)
  unfold ptr
  go_enter Tryz.func96, Tryz.ntmps96
  go_wp2_with fail
  refine (ready_at nm h h1).mono ?_
  rintro e w1 ⟨rfl, hd, hbl⟩
  rw [hr]
  obtain ⟨c0, c1, c2, c3, f0, f1, f2, f3⟩ := hd.cells
  have hlk := hd.miss hl
  go_wp2_with fail
  go_ret
  rw [HF.out]
  exact ⟨rfl, .of_below ⟨m, fs, h, fun _ => Iff.rfl⟩ hbl⟩

/-- **Sync.** -/
theorem sync_any (d : Nat) (S : Nat → Prop) (D : PDisk) (N : Int) (nm : List UInt8) (w : World) (h : DiskAt w d S D) (hw : D.WF N) (h1 : nm.length ≤ 1099511627776) :
    Calls Tryz.prog 62 #[ptr d, .string (bs nm)] w fun e w' => e = .returned (.int .i64 (D.sync nm).2) ∧ DiskTo w w' d S (D.sync nm).1 := by
  obtain ⟨m, fs, hd, hS⟩ := h
  obtain rfl : S = foot d m fs := funext fun k => propext (hS k)
  have key : Calls Tryz.prog 96 #[.pointer (some ⟨d, 0, none⟩), .string (bs nm), .func (.func 97) #[] #[]] w fun e w' => e = .returned (.int .i64 (D.sync nm).2) ∧ DiskTo w w' d (foot d m fs) (D.sync nm).1 := by
    unfold PDisk.sync
    by_cases hr : D.ready nm = 0
    · cases hl : D.look nm with
      | none => exact work_none _ _ hd h1 hr hl
      | some f =>
        obtain ⟨hf, rfl⟩ := PDisk.look_some hl
        exact work_sync hd hw h1 hr hf
    · exact work_not _ _ hd h1 hr
  have HK := hid key
  clear key
  unfold ptr
  go_enter Tryz.func62, Tryz.ntmps62
  go_wp2_with fail
  refine HK.out.mono ?_
  rintro e w1 ⟨rfl, hto⟩
  go_wp2_with fail
  go_ret
  exact ⟨rfl, hto⟩

theorem PDisk.read_not {D : PDisk} {nm : List UInt8} (h : ¬ D.ready nm = 0) : D.read nm = ([], D.ready nm) := by
  unfold PDisk.read; rw [if_pos h]
theorem PDisk.read_none {D : PDisk} {nm : List UInt8} (h : D.ready nm = 0) (hl : D.look nm = none) : D.read nm = ([], 3) := by
  unfold PDisk.read; rw [if_neg (by rw [h]; decide), hl]
theorem PDisk.read_some {D : PDisk} {nm : List UInt8} {f : PFile} (h : D.ready nm = 0) (hl : D.look nm = some f) : D.read nm = (f.sure ++ f.loose, 0) := by
  unfold PDisk.read; rw [if_neg (by rw [h]; decide), hl]

set_option maxHeartbeats 2000000 in
/-- **Read.** -/
theorem read_any (d : Nat) (S : Nat → Prop) (D : PDisk) (N : Int) (nm : List UInt8) (w : World) (h : DiskAt w d S D) (hw : D.WF N) (h1 : nm.length ≤ 1099511627776) :
    Calls Tryz.prog 19 #[ptr d, .string (bs nm)] w fun e w' => e = .returned (.tuple #[.string (bs (D.read nm).1), .int .i64 (D.read nm).2]) ∧ Below w.heap.size w w' := by
  obtain ⟨m, fs, h, hS⟩ := h
  unfold ptr
  by_cases hr : D.ready nm = 0
  · cases hl : D.look nm with
    | none =>
      have HF := hid (PDisk.read_none hr hl)
      go_enter Tryz.func19, Tryz.ntmps19
      go_wp2_with fail
      refine (ready_at nm h h1).mono ?_
      rintro e w1 ⟨rfl, hd, hbl⟩
      rw [hr]
      obtain ⟨c0, c1, c2, c3, f0, f1, f2, f3⟩ := hd.cells
      have hlk := hd.miss hl
      go_wp2_with fail
      go_ret2
      rw [HF.out]
      exact ⟨rfl, hbl⟩
    | some f =>
      have HF := hid (PDisk.read_some hr hl)
      obtain ⟨hf, rfl⟩ := PDisk.look_some hl
      obtain ⟨b, hb⟩ := h.mem hf
      obtain ⟨hl1, hl2⟩ := hw.lens (f := f) hf
      have s0 : (bs f.sure).size = f.sure.length := rfl
      have s1 : (bs f.loose).size = f.loose.length := rfl
      have hcat : (bs f.sure).size + (bs f.loose).size ≤ 9223372036854775807 := by omega
      have hcat2 : ¬ 9223372036854775807 < (bs f.sure).size + (bs f.loose).size := by omega
      clear hw hl
      go_enter Tryz.func19, Tryz.ntmps19
      go_wp2_with fail
      refine (ready_at f.name h h1).mono ?_
      rintro e w1 ⟨rfl, hd, hbl⟩
      rw [hr]
      obtain ⟨c0, c1, c2, c3, f0, f1, f2, f3⟩ := hd.cells
      have hlk := hd.find hb
      unfold ptr at hlk
      have hbk := hd.blk _ hb
      have b0 := hbk.cell (i := 0) (v := .string (bs f.sure)) rfl
      have b1 := hbk.cell (i := 1) (v := .string (bs f.loose)) rfl
      go_wp2_with fail
      go_quiet (fail)
      go_wp2_with fail
      go_ret2
      rw [HF.out, ← bs_append]
      exact ⟨rfl, bel_next hbl (bel_drewN _ _ _)⟩
  · have HF := hid (PDisk.read_not hr)
    go_enter Tryz.func19, Tryz.ntmps19
    go_wp2_with fail
    refine (ready_at nm h h1).mono ?_
    rintro e w1 ⟨rfl, hd, hbl⟩
    go_wp2_with fail
    go_ret2
    rw [HF.out]
    exact ⟨rfl, hbl⟩

end Go.Proofs.YtnibpknhpjcamaaGreatDoor
