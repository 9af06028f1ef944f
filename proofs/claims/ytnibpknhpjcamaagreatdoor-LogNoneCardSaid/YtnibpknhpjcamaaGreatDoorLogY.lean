/-
  seglog: Sync: the walk. Conditions: numbers that fit.
-/
import Derived.Test.YtnibpknhpjcamaaGreatDoorLogW
set_option maxRecDepth 100000
namespace Go.Proofs.YtnibpknhpjcamaaGreatDoor
open Go.RowKit

/-- What a log's function does to it and to its disk. -/
def LogTo (w w' : World) (l d : Nat) (S SD : Nat → Prop) (L' : PLog) (D' : PDisk) : Prop :=
  ∃ S' SD', LogAt w' l d S' L' ∧ DiskAt w' d SD' D' ∧ Fr (fun k => S k ∨ SD k) w w' ∧ (∀ k, S' k → S k ∨ w.heap.size ≤ k) ∧ (∀ k, SD' k → SD k ∨ w.heap.size ≤ k)

theorem LogTo.of_below {w w' : World} {l d : Nat} {S SD : Nat → Prop} {L : PLog} {D : PDisk} (h : LogAt w l d S L) (hd : DiskAt w d SD D) (hb : Below w.heap.size w w') : LogTo w w' l d S SD L D :=
  ⟨S, SD, h.below hb, hd.below hb, Fr.of_below hb, fun _ hk => .inl hk, fun _ hk => .inl hk⟩

theorem LogTo.trans {w w1 w2 : World} {l d : Nat} {S SD : Nat → Prop} {L1 L2 : PLog} {D1 D2 : PDisk} (h : LogTo w w1 l d S SD L1 D1) (h2 : ∀ S1 SD1, LogAt w1 l d S1 L1 → DiskAt w1 d SD1 D1 → LogTo w1 w2 l d S1 SD1 L2 D2) : LogTo w w2 l d S SD L2 D2 := by
  obtain ⟨S1, SD1, a1, b1, f1, s1, t1⟩ := h
  obtain ⟨S2, SD2, a2, b2, f2, s2, t2⟩ := h2 S1 SD1 a1 b1
  have hsz := f1.size
  refine ⟨S2, SD2, a2, b2, ⟨f2.os.trans f1.os, f2.tape.trans f1.tape, f2.output.trans f1.output, Nat.le_trans f1.size f2.size, fun k hk hn => ?_⟩, fun k hk => ?_, fun k hk => ?_⟩
  · refine (f2.block k (by omega) (fun h => ?_)).trans (f1.block k hk hn)
    rcases h with h | h
    · exact (s1 k h).elim (fun h => hn (.inl h)) (by omega)
    · exact (t1 k h).elim (fun h => hn (.inr h)) (by omega)
  · rcases s2 k hk with h | h
    · exact s1 k h
    · exact .inr (by omega)
  · rcases t2 k hk with h | h
    · exact t1 k h
    · exact .inr (by omega)

def PLog.sync (L : PLog) (D : PDisk) : PLog × PDisk × Int :=
  match L.segs.getLast? with
  | none => (L, D, L.e)
  | some x => if L.e ≠ 0 then (L, D, L.e) else
    let r := D.sync (segName L.name x.base)
    ({ L with e := r.2, sure := if r.2 = 0 then L.next else L.sure }, r.1, r.2)

structure PLog.WF (L : PLog) : Prop where
  name : L.name.length ≤ 8
  count : L.segs.length ≤ 1000000
  base : ∀ x ∈ L.segs, 0 ≤ x.base ∧ x.base ≤ 1099511627776
  bytes : ∀ x ∈ L.segs, 0 ≤ x.bytes ∧ x.bytes ≤ 1099511627776
  entries : ∀ x ∈ L.segs, 0 ≤ x.entries ∧ x.entries ≤ 1000000000
  marks : ∀ x ∈ L.segs, x.marks.length ≤ 1000000 ∧ ∀ y ∈ x.marks, 0 ≤ y.pos ∧ y.pos ≤ x.bytes
  next : 0 ≤ L.next ∧ L.next ≤ 1099511627776

/-- Other numbers in a log's head. -/
theorem LogRep.set {w w' : World} {l d : Nat} {ms : List Value} {sv : Value} {L : PLog} (h : LogRep w l d ms sv L) (hf : Fr (fun k => k = l) w w') {f n s e : Int}
    (hb : Blk w' l #[ptr d, .string (bs L.name), sv, .int .i64 f, .int .i64 n, .int .i64 s, .int .i64 e] 97) : LogRep w' l d ms sv { L with first := f, next := n, sure := s, e := e } := by
  refine ⟨hb, h.len, row_fr h.segs hf ?_, fun i x v hx hv => row_fr (h.marks i x v hx hv) hf ?_, h.apart⟩
  · rintro k hk rfl
    obtain ⟨c, fz, hc⟩ := Lib.ownsRow_kind h.segs _ hk
    have := h.hdr
    unfold Blk at this
    rw [this] at hc
    cases hc
  · rintro k hk rfl
    obtain ⟨c, fz, hc⟩ := Lib.ownsRow_kind (h.marks i x v hx hv) _ hk
    have := h.hdr
    unfold Blk at this
    rw [this] at hc
    cases hc

set_option maxHeartbeats 2000000 in
theorem logSync_not {w : World} {l d : Nat} {S SD : Nat → Prop} {L : PLog} {D : PDisk} (h : LogAt w l d S L) (hd : DiskAt w d SD D) (hn : L.segs = [] ∨ L.e ≠ 0) :
    Calls Tryz.prog 28 #[ptr l] w fun e w' => e = .returned (.int .i64 (L.sync D).2.2) ∧ LogTo w w' l d S SD (L.sync D).1 (L.sync D).2.1 := by
  have HF : Hid (L.sync D = (L, D, L.e)) := by
    unfold PLog.sync
    rcases hn with h | h
    · rw [h]; exact hid rfl
    · cases L.segs.getLast? with
      | none => exact hid rfl
      | some x => simp only; rw [if_pos h]; exact hid rfl
  have HL := hid h
  obtain ⟨ms, sv, h, _⟩ := h
  obtain ⟨c0, c1, c2, c3, c4, c5, c6⟩ := h.cells
  obtain ⟨ad, cap, rfl, hat⟩ := h.form
  clear hat h
  unfold ptr
  by_cases he : L.e = 0
  · have hz : L.segs.length = 0 := by
      rcases hn with h | h
      · rw [h]; rfl
      · exact absurd he h
    rw [hz] at c2
    rw [he] at c6
    clear hn
    go_enter Tryz.func28, Tryz.ntmps28
    go_wp2_with fail
    go_ret
    rw [HF.out]
    exact ⟨by rw [he]; rfl, .of_below HL.out hd (Below.refl _ _)⟩
  · clear hn
    go_enter Tryz.func28, Tryz.ntmps28
    go_wp2_with fail
    go_ret
    rw [HF.out]
    exact ⟨rfl, .of_below HL.out hd (Below.refl _ _)⟩

set_option maxHeartbeats 4000000 in
theorem logSync_some {w : World} {l d : Nat} {S SD : Nat → Prop} {L : PLog} {D : PDisk} {N : Int} {a : List PSeg} {x : PSeg} (h : LogAt w l d S L) (hd : DiskAt w d SD D) (hw : D.WF N) (hwl : L.WF) (hs : L.segs = a ++ [x]) (he : L.e = 0) :
    Calls Tryz.prog 28 #[ptr l] w fun e w' => e = .returned (.int .i64 (L.sync D).2.2) ∧ LogTo w w' l d S SD (L.sync D).1 (L.sync D).2.1 := by
  have HF : Hid (L.sync D = ({ L with e := (D.sync (segName L.name x.base)).2, sure := if (D.sync (segName L.name x.base)).2 = 0 then L.next else L.sure }, (D.sync (segName L.name x.base)).1, (D.sync (segName L.name x.base)).2)) := by
    unfold PLog.sync
    rw [hs, List.getLast?_append]
    simp only [List.getLast?_singleton, Option.some_or]
    rw [if_neg (by rw [he]; decide)]
    exact hid rfl
  have HL := hid h
  have HD := hid hd
  have HS0 : ∀ k, S k → ¬ SD k := fun k hk => h.apart hd hk
  obtain ⟨ms, sv, h, hS⟩ := h
  obtain ⟨c0, c1, c2, c3, c4, c5, c6⟩ := h.cells
  rw [he] at c6
  have hn : L.segs.length = a.length + 1 := by rw [hs]; simp
  have hcnt := hwl.count
  have hname := hwl.name
  have hbase := hwl.base x (by rw [hs]; simp)
  obtain ⟨v, hv⟩ : ∃ v, ms[a.length]? = some v := ⟨_, List.getElem?_eq_getElem (by rw [h.len]; omega)⟩
  obtain ⟨ad, cap, rfl, hat⟩ := h.form
  obtain ⟨g, rfl, b0, _, _, _⟩ := hat a.length x v (by rw [hs]; simp) hv
  rw [hn] at c2 hcnt
  have hllt := h.hdr.lt
  have f6 := h.hdr.free 6
  have hnl : ¬ SD l := HS0 l ((hS l).2 (.inl rfl))
  have hng : ¬ SD g := HS0 g ((hS g).2 (.inr (.inl rfl)))
  have hlg : l ≠ g := by
    rintro rfl
    obtain ⟨c, fz, hc⟩ := Lib.ownsRow_kind h.segs l rfl
    have := h.hdr
    unfold Blk at this
    rw [this] at hc
    cases hc
  have hglt : g < w.heap.size := World.block_lt_of_cell? w _ b0
  have hsl : (segName L.name x.base).length ≤ 1099511627776 := by unfold segName; simp [digs_len]; omega
  have HREP := hid h
  have HHS := hid hS
  have HAP := hid HS0
  have HSS := hid hs
  have hiw : IntKind.i64.wrap (a.length : Int) = a.length := IntWalk.i64_in _ (by omega)
  have hj0 : (0 : Int) ≤ (a.length : Int) := by omega
  have hj1 : (a.length : Int) < (a.length : Int) + 1 := by omega
  clear h hS hs hat hv HS0 hn hd
  unfold ptr
  go_enter Tryz.func28, Tryz.ntmps28
  go_wp2_with fail
  go_region_held3 (fun w' => w'.cell? ⟨l, 0, none⟩ = some (.pointer (some ⟨d, 0, none⟩)) ∧ w'.cell? ⟨l, 1, none⟩ = some (.string (bs L.name)) ∧ w'.cell? ⟨l, 2, none⟩ = some (.slice (some ⟨g, 0, none⟩) (a.length + 1) cap) ∧ w'.cell? ⟨g, a.length * 4, none⟩ = some (.int .i64 x.base))
    ((repeat' apply And.intro) <;> (first | (rw [World.cell?_setCell_other _ _ _ _ (by simp)]; assumption) | go_keep))
    ((first
      | (go_at_call 47; refine (file_any l L.name x.base _ ?_ (by omega) hbase.1 (by omega)).mono ?_; (go_simp); rintro e w2 ⟨rfl, hb2⟩; have d20 : w2.cell? ⟨l, 0, none⟩ = some (.pointer (some ⟨d, 0, none⟩)) := (hb2.cell (by (try simp); omega)).trans (by go_simp); have d21 : w2.cell? ⟨l, 1, none⟩ = some (.string (bs L.name)) := (hb2.cell (by (try simp); omega)).trans (by go_simp); have d22 : w2.cell? ⟨l, 2, none⟩ = some (.slice (some ⟨g, 0, none⟩) (a.length + 1) cap) := (hb2.cell (by (try simp); omega)).trans (by go_simp); have d23 : w2.cell? ⟨g, a.length * 4, none⟩ = some (.int .i64 x.base) := (hb2.cell (by (try simp); omega)).trans (by go_simp); have hz2 := hb2.size; (try simp at hz2); have HB2 := hid (show Below w.heap.size w w2 from ⟨hb2.os, hb2.tape, hb2.output, hb2.size, hb2.block⟩))
      | (go_at_call 62; refine (sync_any d SD D N _ _ (HD.out.below HB2.out) hw hsl).mono ?_; rintro e w3 ⟨rfl, hto3⟩; have HTO := hid hto3; obtain ⟨SD1, hd1, hto, hsd1⟩ := hto3; have d30 : w3.cell? ⟨l, 0, none⟩ = some (.pointer (some ⟨d, 0, none⟩)) := (World.cell?_of_block (hto.block _ (by (try simp); omega) hnl)).trans (by assumption); have d31 : w3.cell? ⟨l, 1, none⟩ = some (.string (bs L.name)) := (World.cell?_of_block (hto.block _ (by (try simp); omega) hnl)).trans (by assumption); have d32 : w3.cell? ⟨l, 2, none⟩ = some (.slice (some ⟨g, 0, none⟩) (a.length + 1) cap) := (World.cell?_of_block (hto.block _ (by (try simp); omega) hnl)).trans (by assumption); have d33 : w3.cell? ⟨g, a.length * 4, none⟩ = some (.int .i64 x.base) := (World.cell?_of_block (hto.block _ (by (try simp); omega) hng)).trans (by assumption); have d36 : w3.cell? ⟨l, 6, none⟩ = some (.int .i64 0) := (World.cell?_of_block (hto.block _ (by (try simp); omega) hnl)).trans ((HB2.out.cell (p := ⟨l, 6, none⟩) hllt).trans c6); have f36 : w3.frozen? ⟨l, 6, none⟩ = false := (World.frozen?_of_block (hto.block _ (by (try simp); omega) hnl)).trans ((HB2.out.frozen (p := ⟨l, 6, none⟩) hllt).trans f6); have hz3 := hto.size; clear hd1 hto hsd1)))
  obtain ⟨SD1, hd1, hto, hsd1⟩ := HTO.out
  have hfw : Fr SD w w3 := (Fr.of_below HB2.out).trans hto
  have hrep3 : LogRep w3 l d ms (.slice (some ⟨g, 0, none⟩) L.segs.length cap) L := HREP.out.fr hfw (fun k hk => HAP.out k ((HHS.out k).2 hk))
  have hlen : L.segs.length = a.length + 1 := by rw [HSS.out]; simp
  generalize (D.sync (segName L.name x.base)).2 = e2 at *
  have hb4 : Blk (w3.setCell ⟨l, 6, none⟩ (.int .i64 e2)) l #[ptr d, .string (bs L.name), .slice (some ⟨g, 0, none⟩) L.segs.length cap, .int .i64 L.first, .int .i64 L.next, .int .i64 L.sure, .int .i64 e2] 97 := hrep3.hdr.set 6 (.int .i64 e2)
  have hf4 : Fr (fun k => k = l) w3 (w3.setCell ⟨l, 6, none⟩ (.int .i64 e2)) := Fr.setCell (S := fun k => k = l) (p := ⟨l, 6, none⟩) (Fr.refl _ _) (.inl rfl) _
  have hSl : S l := (HHS.out l).2 (.inl rfl)
  have hn1 : ∀ k, SD1 k → ¬ k = l := by
    rintro k hk rfl
    rcases hsd1 k hk with h | h
    · exact hnl h
    · omega
  have fin : ∀ (w5 : World) (s' : Int), Fr (fun k => k = l) w3 w5 → Blk w5 l #[ptr d, .string (bs L.name), .slice (some ⟨g, 0, none⟩) L.segs.length cap, .int .i64 L.first, .int .i64 L.next, .int .i64 s', .int .i64 e2] 97 →
      LogTo w w5 l d S SD { L with e := e2, sure := s' } (D.sync (segName L.name x.base)).1 := by
    intro w5 s' hf5 hb5
    refine ⟨S, SD1, ⟨ms, _, hrep3.set hf5 hb5, HHS.out⟩, hd1.fr hf5 hn1, ?_, fun k hk => .inl hk, fun k hk => ?_⟩
    · exact (hfw.mono (fun k _ h => .inr h)).trans (hf5.mono (by rintro k _ rfl; exact .inl hSl))
    · rcases hsd1 k hk with h | h
      · exact .inl h
      · exact .inr (by omega)
  have HFIN := hid fin
  have g4 := hb4.cell (i := 4) (v := .int .i64 L.next) rfl
  have g5 := hb4.cell (i := 5) (v := .int .i64 L.sure) rfl
  have g6 := hb4.cell (i := 6) (v := .int .i64 e2) rfl
  have k5 := hb4.free 5
  have hb6 : Blk ((w3.setCell ⟨l, 6, none⟩ (.int .i64 e2)).setCell ⟨l, 5, none⟩ (.int .i64 L.next)) l #[ptr d, .string (bs L.name), .slice (some ⟨g, 0, none⟩) L.segs.length cap, .int .i64 L.first, .int .i64 L.next, .int .i64 L.next, .int .i64 e2] 97 := hb4.set 5 (.int .i64 L.next)
  have hf6 : Fr (fun k => k = l) w3 ((w3.setCell ⟨l, 6, none⟩ (.int .i64 e2)).setCell ⟨l, 5, none⟩ (.int .i64 L.next)) := Fr.setCell (S := fun k => k = l) (p := ⟨l, 5, none⟩) hf4 (.inl rfl) _
  have HB4 := hid hb4
  have HF4 := hid hf4
  have HB6 := hid hb6
  have HF6 := hid hf6
  have m6 := hb6.cell (i := 6) (v := .int .i64 e2) rfl
  generalize hW4 : w3.setCell ⟨l, 6, none⟩ (.int .i64 e2) = W4 at *
  clear fin hb4 hf4 hb6 hf6 hrep3 hd1 hto hsd1 hfw hn1 c0 c1 c2 c3 c4 c5 c6 d20 d21 d22 d23 d30 d31 d32 d33 d36 f36 f6
  by_cases h0 : e2 = 0
  · have hz : (e2 == 0) = true := by simpa using h0
    rw [if_pos h0] at HF
    go_wp2_with fail
    go_ret
    rw [HF.out]
    exact ⟨by rw [h0]; rfl, HFIN.out _ _ HF6.out HB6.out⟩
  · rw [if_neg h0] at HF
    go_wp2_with fail
    go_ret
    rw [HF.out]
    exact ⟨rfl, HFIN.out _ _ HF4.out HB4.out⟩

/-- **Sync.** -/
theorem logSync_any {w : World} {l d : Nat} {S SD : Nat → Prop} {L : PLog} {D : PDisk} {N : Int} (h : LogAt w l d S L) (hd : DiskAt w d SD D) (hw : D.WF N) (hwl : L.WF) :
    Calls Tryz.prog 28 #[ptr l] w fun e w' => e = .returned (.int .i64 (L.sync D).2.2) ∧ LogTo w w' l d S SD (L.sync D).1 (L.sync D).2.1 := by
  by_cases he : L.e = 0
  · cases hs : L.segs.getLast? with
    | none => exact logSync_not h hd (.inl (by simpa using hs))
    | some x =>
      obtain ⟨a, ha⟩ : ∃ a, L.segs = a ++ [x] := by rw [List.getLast?_eq_some_iff] at hs; exact hs
      exact logSync_some h hd hw hwl ha he
  · exact logSync_not h hd (.inr he)

end Go.Proofs.YtnibpknhpjcamaaGreatDoor
