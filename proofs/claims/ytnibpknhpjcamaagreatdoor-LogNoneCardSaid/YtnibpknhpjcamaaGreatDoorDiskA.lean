/-
  disk.Append: the walk. Conditions: texts that fit.
-/
import Derived.Test.YtnibpknhpjcamaaGreatDoorDiskW
import Derived.Test.YtnibpknhpjcamaaGreatDoorRange
set_option maxRecDepth 100000
namespace Go.Proofs.YtnibpknhpjcamaaGreatDoor
open Go.RowKit

theorem bs_ne {a b : List UInt8} (h : a ≠ b) : bs a ≠ bs b := fun e => h (bs_inj e)

theorem file_zero (w : World) : (zeroValue 107).run Tryz.prog w = .ok (.pointer none) w := by rfl

theorem DiskRep.find {w : World} {d m : Nat} {fs : List (Nat × PFile)} {D : PDisk} (h : DiskRep w d m fs D) {b : Nat} {f : PFile} (hm : (b, f) ∈ fs) :
    (Instr.lookup 108 (.map (some m)) (.string (bs f.name)) false).run Tryz.prog w = .ok (ptr b) w :=
  h.map.look_some Tryz.underlying108 Tryz.underlying9 (List.mem_map.2 ⟨_, hm, rfl⟩)

theorem DiskRep.miss {w : World} {d m : Nat} {fs : List (Nat × PFile)} {D : PDisk} (h : DiskRep w d m fs D) {nm : List UInt8} (hn : D.look nm = none) :
    (Instr.lookup 108 (.map (some m)) (.string (bs nm)) false).run Tryz.prog w = .ok (.pointer none) w :=
  h.map.look_none Tryz.underlying108 Tryz.underlying9 (file_zero w) (fun p hp => by
    obtain ⟨x, hx, rfl⟩ := List.mem_map.1 hp
    exact bs_ne (PDisk.look_none hn _ (h.mem' hx)))

/-- The walk's call of ready. -/
theorem ready_at {d m : Nat} {fs : List (Nat × PFile)} {D : PDisk} {w : World} (nm : List UInt8) (h : DiskRep w d m fs D) (hs : nm.length ≤ 1099511627776) :
    Calls Tryz.prog 50 #[.pointer (some ⟨d, 0, none⟩), .slice (some ⟨w.heap.size, 0, none⟩) 1 1] (w.alloc (.cells #[.string (bs nm)] 9)) fun e w' =>
      e = .returned (.int .i64 (D.ready nm)) ∧ DiskRep w' d m fs D ∧ Below w.heap.size w w' := by
  have hf := (Fr.refl (fun _ => False) w).alloc (.cells #[.string (bs nm)] 9)
  refine (ready_any d m fs D w.heap.size nm _ (h.fr hf (fun _ _ h => h)) ((Blk.new _ _ _).cell rfl) hs).mono ?_
  rintro e w1 ⟨rfl, hb⟩
  have hb2 : Below w.heap.size w w1 := ((Below.refl _ w).alloc (Nat.le_refl _) _).trans (hb.mono (by simp))
  exact ⟨rfl, h.fr (Fr.of_below (S := fun _ => False) hb2) (fun _ _ h => h), hb2⟩

theorem DiskRep.drewN {w : World} {d m : Nat} {fs : List (Nat × PFile)} {D : PDisk} (h : DiskRep w d m fs D) (n : Nat) : DiskRep (w.drewN n) d m fs D :=
  h.fr ((Fr.refl (fun _ => False) w).drewN n) (fun _ _ h => h)

theorem DiskRep.below {w w' : World} {d m : Nat} {fs : List (Nat × PFile)} {D : PDisk} (h : DiskRep w d m fs D) (hb : Below w.heap.size w w') : DiskRep w' d m fs D :=
  h.fr (Fr.of_below (S := fun _ => False) hb) (fun _ _ h => h)

theorem blk_ub {n : Int} (h : 0 ≤ n) : blk n ≤ n + 1 := by unfold blk; split <;> omega

theorem PDisk.WF.room_le {D : PDisk} {N : Int} (h : D.WF N) : D.room ≤ 16384 := by
  have := h.sum; have := h.size; have := sumBlk_nonneg D.files; omega

theorem PDisk.append_not {D : PDisk} {nm : List UInt8} (s : List UInt8) (h : ¬ D.ready nm = 0) : D.append nm s = (D, D.ready nm) := by
  unfold PDisk.append; rw [if_pos h]

theorem PDisk.append_old {D : PDisk} {nm : List UInt8} (s : List UInt8) {f : PFile} (h : D.ready nm = 0) (hl : D.look nm = some f) :
    D.append nm s = if D.room < blk (f.size + s.length) - blk f.size then (D, 5) else
      let D1 := { D with files := putF D.files { f with loose := f.loose ++ s }, room := D.room - (blk (f.size + s.length) - blk f.size) }
      (D1.burn.1, if D1.burn.2 then 0 else 4) := by
  unfold PDisk.append; rw [if_neg (by rw [h]; decide), hl]; simp

theorem PDisk.append_new {D : PDisk} {nm : List UInt8} (s : List UInt8) (h : D.ready nm = 0) (hl : D.look nm = none) :
    D.append nm s = if D.room < blk s.length ∨ 256 ≤ D.files.length then (D, 5) else
      let D1 := { D with files := putF D.files { name := nm, sure := [], loose := s }, room := D.room - blk s.length }
      (D1.burn.1, if D1.burn.2 then 0 else 4) := by
  unfold PDisk.append; rw [if_neg (by rw [h]; decide), hl]; simp

/-- What is behind another file's bytes. -/
theorem fr_two {S : Nat → Prop} {w : World} {a b : Addr} {u v : Value} (ha : S a.block) (hb : S b.block) : Fr S w ((w.setCell a u).setCell b v) :=
  Fr.setCell (Fr.setCell (Fr.refl S w) (.inl ha) u) (.inl hb) v

theorem DiskTo.of_rep {w w' : World} {d m : Nat} {fs fs' : List (Nat × PFile)} {D' : PDisk} (h : DiskRep w' d m fs' D') (hf : Fr (foot d m fs) w w') (hk : ∀ k, foot d m fs' k → foot d m fs k ∨ w.heap.size ≤ k) : DiskTo w w' d (foot d m fs) D' :=
  ⟨foot d m fs', ⟨m, fs', h, fun _ => Iff.rfl⟩, hf, hk⟩

set_option maxHeartbeats 1000000 in
theorem append_not {d m : Nat} {fs : List (Nat × PFile)} {D : PDisk} (nm s : List UInt8) {w : World} (h : DiskRep w d m fs D) (h1 : nm.length ≤ 1099511627776) (hr : ¬ D.ready nm = 0) :
    Calls Tryz.prog 59 #[ptr d, .string (bs nm), .string (bs s)] w fun e w' => e = .returned (.int .i64 (D.append nm s).2) ∧ DiskTo w w' d (foot d m fs) (D.append nm s).1 := by
  have HF := hid (PDisk.append_not s hr)
  unfold ptr
  go_enter Tryz.func59, Tryz.ntmps59
  go_wp2_with fail
  refine (ready_at nm h h1).mono ?_
  rintro e w1 ⟨rfl, hd, hbl⟩
  go_wp2_with fail
  go_ret
  rw [HF.out]
  exact ⟨rfl, .of_below ⟨m, fs, h, fun _ => Iff.rfl⟩ hbl⟩

set_option maxHeartbeats 2000000 in
theorem append_old {d m : Nat} {fs : List (Nat × PFile)} {D : PDisk} {N : Int} (s : List UInt8) {f : PFile} {w : World} (h : DiskRep w d m fs D) (hw : D.WF N) (h1 : f.name.length ≤ 1099511627776) (h2 : s.length ≤ 1099511627776) (hr : D.ready f.name = 0) (hf : f ∈ D.files) :
    Calls Tryz.prog 59 #[ptr d, .string (bs f.name), .string (bs s)] w fun e w' => e = .returned (.int .i64 (D.append f.name s).2) ∧ DiskTo w w' d (foot d m fs) (D.append f.name s).1 := by
  have es : (bs s).size = s.length := rfl
  have HF := hid (PDisk.append_old s hr (PDisk.look_mem hw.sorted hf))
  obtain ⟨b, hb⟩ := h.mem hf
  have hsz := hw.fsize hf
  have hR0 := hw.room
  have hR1 := hw.room_le
  obtain ⟨hl1, hl2⟩ := hw.lens hf
  have HW := hid hw
  clear hw
  unfold ptr
  go_enter Tryz.func59, Tryz.ntmps59
  go_wp2_with fail
  refine (ready_at f.name h h1).mono ?_
  rintro e w1 ⟨rfl, hd, hbl⟩
  rw [hr]
  obtain ⟨c0, c1, c2, c3, f0, f1, f2, f3⟩ := hd.cells
  have hlk := hd.find hb
  unfold ptr at hlk
  go_wp2_with fail
  refine (blocks_any _ _ (by omega) (by omega)).mono ?_
  rintro e w2 ⟨rfl, rfl⟩
  go_wp2_with fail
  refine (size_any b f w1 (hd.blk _ hb) hl1 hl2).mono ?_
  rintro e w2 ⟨rfl, n1, rfl⟩
  go_wp2_with fail
  refine (blocks_any _ _ (by omega) (by omega)).mono ?_
  rintro e w2 ⟨rfl, rfl⟩
  go_wp2_with fail
  refine (size_any b f _ ((hd.blk _ hb).drewN n1) hl1 hl2).mono ?_
  rintro e w2 ⟨rfl, n2, rfl⟩
  go_wp2_with fail
  refine (blocks_any _ _ (by omega) (by omega)).mono ?_
  rintro e w2 ⟨rfl, rfl⟩
  have p1 := blk_pos (↑f.size + ↑s.length)
  have p2 := blk_ub (n := (↑f.size + ↑s.length)) (by omega)
  have q1 := blk_pos f.size
  have q2 := blk_ub (n := f.size) (by omega)
  have pq := blk_mono (a := f.size) (b := (↑f.size + ↑s.length)) (by omega)
  have hbd := hd.bd hb
  have HPUT := fun (hR : ¬ D.room < blk (f.size + s.length) - blk f.size) => HW.out.put (f' := { f with loose := f.loose ++ s }) hf rfl (r := D.room - (blk (f.size + s.length) - blk f.size)) (by
    have : PFile.size { f with loose := f.loose ++ s } = f.size + s.length := by simp [PFile.size]; omega
    rw [this]; simp only [Int.natCast_add]; omega) (by omega)
  have HPUT2 := hid HPUT
  clear HPUT
  generalize blk (↑f.size + ↑s.length) = p at HF p1 p2 pq HPUT2 ⊢
  generalize blk ↑f.size = q at HF q1 q2 pq HPUT2 ⊢
  have hbk := (hd.blk _ hb).drewN (n1 + n2)
  by_cases hroom : D.room < p - q
  · go_wp2_with fail
    go_ret
    rw [HF.out, if_pos hroom]
    exact ⟨rfl, .of_below ⟨m, fs, h, fun _ => Iff.rfl⟩ (bel_next hbl (bel_drewN _ _ (n1 + n2)))⟩
  · have hwr := HPUT2.out hroom
    have hbk2 := hbk.other (b' := d) hbd 1 (.int .i64 (D.room - (p - q)))
    have k1 := hbk2.cell (i := 1) (v := .string (bs f.loose)) rfl
    have k2 := hbk2.free 1
    have ec : (bs f.loose).size = f.loose.length := rfl
    have hcat : (bs f.loose).size + (bs s).size ≤ 9223372036854775807 := by omega
    have hcat2 : ¬ 9223372036854775807 < (bs f.loose).size + (bs s).size := by omega
    have HB2 := hid hbk2
    clear hbk2 hbk
    go_wp2_with fail
    obtain ⟨fs1, hrep, hft⟩ := ((hd.drewN (n1 + n2)).set (r := D.room - (p - q)) (fu := D.fuse) (o := D.off) (Fr.setCell (S := fun k => k = d) (p := ⟨d, 1, none⟩) (Fr.refl _ _) (.inl rfl) _) ((hd.drewN (n1 + n2)).hdr.set 1 (.int .i64 (D.room - (p - q))))).put
      (f' := { f with loose := f.loose ++ s }) HW.out.sorted hb rfl (Fr.setCell (S := fun k => k = b) (p := ⟨b, 1, none⟩) (Fr.refl _ _) (.inl rfl) (.string (bs f.loose ++ bs s))) (by
        have := HB2.out.set 1 (.string (bs f.loose ++ bs s))
        rw [bs_append] at this ⊢
        exact this)
    refine (burn_any d m fs1 _ _ hrep hwr.fuse hwr.fuse').mono ?_
    rintro e w2 ⟨rfl, hrep2, hf2⟩
    have hfin : DiskTo w w2 d (foot d m fs) (PDisk.burn { D with files := putF D.files { f with loose := f.loose ++ s }, room := D.room - (p - q) }).1 := by
      refine .of_rep hrep2 ?_ (fun k hk => .inl ((hft k).1 hk))
      refine ((Fr.of_below (bel_next hbl (bel_drewN _ _ (n1 + n2)))).trans (fr_two ?_ ?_)).trans (hf2.mono ?_)
      · exact .inl rfl
      · exact .inr (.inr (List.mem_map.2 ⟨_, hb, rfl⟩))
      · rintro k _ rfl; exact .inl rfl
    have HF2 := hid (show D.append f.name s = _ from HF.out.trans (if_neg (by omega)))
    clear HF HPUT2
    dsimp only at HF2 hfin ⊢
    generalize PDisk.burn { D with files := putF D.files { f with loose := f.loose ++ s }, room := D.room - (p - q) } = bb at *
    have HFIN := hid hfin
    have HWR := hid hwr
    clear hfin hwr hrep hrep2
    cases hb2 : bb.2 with
    | true =>
      go_wp2_with fail
      go_ret
      rw [HF2.out, hb2]
      exact ⟨rfl, HFIN.out⟩
    | false =>
      go_wp2_with fail
      go_ret
      rw [HF2.out, hb2]
      exact ⟨rfl, HFIN.out⟩

set_option maxHeartbeats 2000000 in
theorem append_new {d m : Nat} {fs : List (Nat × PFile)} {D : PDisk} {N : Int} (nm s : List UInt8) {w : World} (h : DiskRep w d m fs D) (hw : D.WF N) (h1 : nm.length ≤ 1099511627776) (h2 : s.length ≤ 1099511627776) (hr : D.ready nm = 0) (hl : D.look nm = none) :
    Calls Tryz.prog 59 #[ptr d, .string (bs nm), .string (bs s)] w fun e w' => e = .returned (.int .i64 (D.append nm s).2) ∧ DiskTo w w' d (foot d m fs) (D.append nm s).1 := by
  have es : (bs s).size = s.length := rfl
  have HF := hid (PDisk.append_new s hr hl)
  have hR0 := hw.room
  have hR1 := hw.room_le
  have hnn := PDisk.look_none hl
  have HN := hid hnn
  have HOK := hid (PDisk.ready_zero hr).1
  have hcount := hw.count
  have HW := hid hw
  clear hw hnn
  unfold ptr
  go_enter Tryz.func59, Tryz.ntmps59
  go_wp2_with fail
  refine (ready_at nm h h1).mono ?_
  rintro e w1 ⟨rfl, hd, hbl⟩
  rw [hr]
  obtain ⟨c0, c1, c2, c3, f0, f1, f2, f3⟩ := hd.cells
  have hlk := hd.miss hl
  have hlen := hd.map.len Tryz.underlying108 3
  rw [List.length_map, hd.len] at hlen
  go_wp2_with fail
  refine (blocks_any _ _ (by omega) (by omega)).mono ?_
  rintro e w2 ⟨rfl, rfl⟩
  have p1 := blk_pos ↑s.length
  have p2 := blk_ub (n := ↑s.length) (by omega)
  have HPUT := hid fun (hR : ¬ (D.room < blk s.length ∨ 256 ≤ D.files.length)) => HW.out.new (f := { name := nm, sure := [], loose := s }) HN.out HOK.out (by omega) (r := D.room - blk s.length) (by simp [PFile.size]) (by omega)
  generalize blk ↑s.length = p at HF p1 p2 HPUT ⊢
  by_cases hroom : D.room < p
  · go_wp2_with fail
    go_ret
    rw [HF.out, if_pos (.inl hroom)]
    exact ⟨rfl, .of_below ⟨m, fs, h, fun _ => Iff.rfl⟩ hbl⟩
  · by_cases hfull : 256 ≤ D.files.length
    · go_wp2_with fail
      go_ret
      rw [HF.out, if_pos (.inr hfull)]
      exact ⟨rfl, .of_below ⟨m, fs, h, fun _ => Iff.rfl⟩ hbl⟩
    · have hwr := HPUT.out (fun h => h.elim hroom hfull)
      have hdm := hd.dm
      have hd2 := hd.fr ((Fr.refl (fun _ => False) w1).alloc (.cells #[.string ⟨#[]⟩, .string ⟨#[]⟩] 112)) (fun _ _ h => h)
      have hb2 := Blk.new w1 #[.string ⟨#[]⟩, .string ⟨#[]⟩] 112
      obtain ⟨o, hmu, hmp⟩ := hd2.map.put_new Tryz.underlying108 Tryz.underlying9 (k := bs nm) (ptr w1.heap.size) (fun p hp => by
        obtain ⟨x, hx, rfl⟩ := List.mem_map.1 hp
        exact bs_ne (HN.out _ (hd.mem' hx)))
      unfold ptr at hmu hmp
      have hnb : ¬ foot d m fs w1.heap.size := fun hk => by have := hd.foot_lt hk; omega
      have hbm : w1.heap.size ≠ m := fun e => hnb (.inr (.inl e))
      have hbd : w1.heap.size ≠ d := fun e => hnb (.inl e)
      generalize hW2 : w1.alloc (.cells #[.string ⟨#[]⟩, .string ⟨#[]⟩] 112) = W2 at *
      obtain ⟨g0, g1, g2, g3, r0, r1, r2, r3⟩ := hd2.cells
      have hfp : Fr (fun k => k = m) W2 (W2.putObj m o) := fr_putObj _ _ _ rfl
      have hh3 := hd2.hdr.fr hfp hdm
      have hb3 := hb2.fr hfp hbm
      have u1 := hh3.cell (i := 1) (v := .int .i64 D.room) rfl
      have u2 := hh3.free 1
      have hb4 := hb3.other (b' := d) hbd 1 (.int .i64 (D.room - p))
      have v1 := hb4.cell (i := 1) (v := .string ⟨#[]⟩) rfl
      have v2 := hb4.free 1
      have hcat : (⟨#[]⟩ : ByteArray).size + (bs s).size ≤ 9223372036854775807 := by show 0 + s.length ≤ _; omega
      have hcat2 : ¬ 9223372036854775807 < (⟨#[]⟩ : ByteArray).size + (bs s).size := by omega
      have HB4 := hid hb4
      have HH3 := hid hh3
      have HMP := hid hmp
      clear hb4 hh3 hb3 hb2 hmp
      go_wp2_with fail
      have hf3 : Fr (fun k => k = m ∨ k = w1.heap.size ∨ k = d) W2 ((W2.putObj m o).setCell ⟨d, 1, none⟩ (.int .i64 (D.room - p))) := Fr.setCell (p := ⟨d, 1, none⟩) (hfp.mono (by rintro k _ rfl; exact .inl rfl)) (.inl (.inr (.inr rfl))) _
      have hf4 : Fr (fun k => k = m ∨ k = w1.heap.size ∨ k = d) W2 (((W2.putObj m o).setCell ⟨d, 1, none⟩ (.int .i64 (D.room - p))).setCell ⟨w1.heap.size, 1, none⟩ (.string (⟨#[]⟩ ++ bs s))) := Fr.setCell (p := ⟨w1.heap.size, 1, none⟩) hf3 (.inl (.inr (.inl rfl))) _
      have hcatb : (⟨#[]⟩ : ByteArray) ++ bs s = bs s := (bs_append [] s)
      obtain ⟨fs1, hrep, hft⟩ := hd2.new (b := w1.heap.size) (f := { name := nm, sure := [], loose := s }) (fun g hg => HN.out g hg) hnb hf4
        ((HH3.out.set 1 (.int .i64 (D.room - p))).other (Ne.symm hbd) 1 _)
        ((HMP.out.fr (Fr.setCell (S := fun k => k = d) (p := ⟨d, 1, none⟩) (Fr.refl _ _) (.inl rfl) (.int .i64 (D.room - p))) (fun e => hdm e.symm)).fr (Fr.setCell (S := fun k => k = w1.heap.size) (p := ⟨w1.heap.size, 1, none⟩) (Fr.refl _ _) (.inl rfl) _) (fun e => hbm e.symm))
        (by
          have := HB4.out.set 1 (.string (⟨#[]⟩ ++ bs s))
          rw [hcatb] at this ⊢
          exact this)
      refine (burn_any d m fs1 _ _ hrep hwr.fuse hwr.fuse').mono ?_
      rintro e w2 ⟨rfl, hrep2, hf2⟩
      have hsz1 := hbl.size
      have hfin : DiskTo w w2 d (foot d m fs) (PDisk.burn { D with files := putF D.files { name := nm, sure := [], loose := s }, room := D.room - p }).1 := by
        refine .of_rep hrep2 ?_ (fun k hk => ?_)
        · have ha : Fr (foot d m fs) w W2 := by rw [← hW2]; exact (Fr.of_below hbl).alloc _
          refine ⟨?_, ?_, ?_, ?_, ?_⟩
          · exact (hf2.os.trans hf4.os).trans ha.os
          · exact (hf2.tape.trans hf4.tape).trans ha.tape
          · exact (hf2.output.trans hf4.output).trans ha.output
          · exact Nat.le_trans (Nat.le_trans ha.size hf4.size) hf2.size
          · intro k hk hn
            have n1 : ¬ k = d := fun e => hn (.inl e)
            have n2 : ¬ k = m := fun e => hn (.inr (.inl e))
            have n3 : ¬ k = w1.heap.size := by omega
            have l1 : k < W2.heap.size := Nat.lt_of_lt_of_le hk ha.size
            exact ((hf2.block k (Nat.lt_of_lt_of_le l1 hf4.size) n1).trans (hf4.block k l1 (by rintro (e | e | e) <;> contradiction))).trans (ha.block k hk hn)
        · rcases (hft k).1 hk with h | h
          · exact .inl h
          · exact .inr (by omega)
      have HF2 := hid (show D.append nm s = _ from HF.out.trans (if_neg (by omega)))
      clear HF HPUT
      dsimp only at HF2 hfin ⊢
      generalize PDisk.burn { D with files := putF D.files { name := nm, sure := [], loose := s }, room := D.room - p } = bb at *
      have HFIN := hid hfin
      clear hfin hwr hrep hrep2
      cases hb2 : bb.2 with
      | true =>
        go_wp2_with fail
        go_ret
        rw [HF2.out, hb2]
        exact ⟨rfl, HFIN.out⟩
      | false =>
        go_wp2_with fail
        go_ret
        rw [HF2.out, hb2]
        exact ⟨rfl, HFIN.out⟩

/-- **Append.** -/
theorem append_any (d : Nat) (S : Nat → Prop) (D : PDisk) (N : Int) (nm s : List UInt8) (w : World) (h : DiskAt w d S D) (hw : D.WF N) (h1 : nm.length ≤ 1099511627776) (h2 : s.length ≤ 1099511627776) :
    Calls Tryz.prog 59 #[ptr d, .string (bs nm), .string (bs s)] w fun e w' => e = .returned (.int .i64 (D.append nm s).2) ∧ DiskTo w w' d S (D.append nm s).1 := by
  obtain ⟨m, fs, hd, hS⟩ := h
  obtain rfl : S = foot d m fs := funext fun k => propext (hS k)
  by_cases hr : D.ready nm = 0
  · cases hl : D.look nm with
    | none => exact append_new nm s hd hw h1 h2 hr hl
    | some f =>
      obtain ⟨hf, rfl⟩ := PDisk.look_some hl
      exact append_old s hd hw h1 h2 hr hf
  · exact append_not nm s hd h1 hr

end Go.Proofs.YtnibpknhpjcamaaGreatDoor
