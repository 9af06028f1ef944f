/-
  offsets: write: the walk. Conditions: numbers that fit.
  offsets: Begin, Committed, Pends, Gen: the walks. Conditions: numbers that fit.
  offsets: Pend: the walk. Conditions: numbers that fit.
-/
import Derived.Test.YtjodkcjlipecdaaGreatDoorGSM
import Derived.Test.YtjodkcjlipecdaaGreatDoorGQM
import Derived.Test.YtjodkcjlipecdaaGreatDoorGEM
import Derived.Laws.IdiomCopy
set_option maxRecDepth 100000
namespace Go.Proofs.YtjodkcjlipecdaaGreatDoor
open Go.RowKit

/-- Offsets, their log, their disk. -/
structure Offs (w : World) (o l d : Nat) (S SL SD : Nat → Prop) (O : POff) (L : PLog) (D : PDisk) : Prop where
  off : OffAt w o l S O
  log : LogAt w l d SL L
  disk : DiskAt w d SD D

def OffsTo (w w' : World) (o l d : Nat) (S SL SD : Nat → Prop) (O' : POff) (L' : PLog) (D' : PDisk) : Prop :=
  ∃ S' SL' SD', Offs w' o l d S' SL' SD' O' L' D' ∧ Fr (fun k => S k ∨ SL k ∨ SD k) w w' ∧ (∀ k, S' k → S k ∨ w.heap.size ≤ k) ∧ (∀ k, SL' k → SL k ∨ w.heap.size ≤ k) ∧ (∀ k, SD' k → SD k ∨ w.heap.size ≤ k)

section
variable {w w1 w2 : World} {o l d : Nat} {S SL SD : Nat → Prop} {O O1 O2 : POff} {L L1 L2 : PLog} {D D1 D2 : PDisk}

theorem Offs.below (h : Offs w o l d S SL SD O L D) (hb : Below w.heap.size w w1) : Offs w1 o l d S SL SD O L D := ⟨h.off.below hb, h.log.below hb, h.disk.below hb⟩

theorem OffsTo.of_below (h : Offs w o l d S SL SD O L D) (hb : Below w.heap.size w w1) : OffsTo w w1 o l d S SL SD O L D :=
  ⟨S, SL, SD, h.below hb, Fr.of_below hb, fun _ hk => .inl hk, fun _ hk => .inl hk, fun _ hk => .inl hk⟩

theorem OffsTo.next {S1 SL1 SD1 : Nat → Prop} (h : Offs w1 o l d S1 SL1 SD1 O1 L1 D1 ∧ Fr (fun k => S k ∨ SL k ∨ SD k) w w1 ∧ (∀ k, S1 k → S k ∨ w.heap.size ≤ k) ∧ (∀ k, SL1 k → SL k ∨ w.heap.size ≤ k) ∧ (∀ k, SD1 k → SD k ∨ w.heap.size ≤ k))
    (h2 : OffsTo w1 w2 o l d S1 SL1 SD1 O2 L2 D2) : OffsTo w w2 o l d S SL SD O2 L2 D2 := by
  obtain ⟨a1, f1, s1, t1, u1⟩ := h
  obtain ⟨S2, SL2, SD2, a2, f2, s2, t2, u2⟩ := h2
  have hsz := f1.size
  refine ⟨S2, SL2, SD2, a2, ⟨f2.os.trans f1.os, f2.tape.trans f1.tape, f2.output.trans f1.output, Nat.le_trans f1.size f2.size, fun k hk hn => ?_⟩, fun k hk => ?_, fun k hk => ?_, fun k hk => ?_⟩
  · refine (f2.block k (by omega) (fun h => ?_)).trans (f1.block k hk hn)
    rcases h with h | h | h
    · exact (s1 k h).elim (fun h => hn (.inl h)) (by omega)
    · exact (t1 k h).elim (fun h => hn (.inr (.inl h))) (by omega)
    · exact (u1 k h).elim (fun h => hn (.inr (.inr h))) (by omega)
  · rcases s2 k hk with h | h
    · exact s1 k h
    · exact .inr (by omega)
  · rcases t2 k hk with h | h
    · exact t1 k h
    · exact .inr (by omega)
  · rcases u2 k hk with h | h
    · exact u1 k h
    · exact .inr (by omega)

theorem OffsTo.trans (h : OffsTo w w1 o l d S SL SD O1 L1 D1) (h2 : ∀ S1 SL1 SD1, Offs w1 o l d S1 SL1 SD1 O1 L1 D1 → OffsTo w1 w2 o l d S1 SL1 SD1 O2 L2 D2) : OffsTo w w2 o l d S SL SD O2 L2 D2 := by
  obtain ⟨S1, SL1, SD1, a1⟩ := h
  exact OffsTo.next a1 (h2 S1 SL1 SD1 a1.1)

theorem OffsTo.then_below (h : OffsTo w w1 o l d S SL SD O1 L1 D1) (hb : Below w1.heap.size w1 w2) : OffsTo w w2 o l d S SL SD O1 L1 D1 :=
  h.trans (fun _ _ _ h1 => .of_below h1 hb)

theorem OffsTo.after (hb : Below w.heap.size w w1) (h : OffsTo w1 w2 o l d S SL SD O1 L1 D1) : OffsTo w w2 o l d S SL SD O1 L1 D1 := by
  obtain ⟨S1, SL1, SD1, a1, f1, s1, t1, u1⟩ := h
  have hsz := hb.size
  exact ⟨S1, SL1, SD1, a1, (Fr.of_below hb).trans f1, fun k hk => (s1 k hk).imp id (by omega), fun k hk => (t1 k hk).imp id (by omega), fun k hk => (u1 k hk).imp id (by omega)⟩

/-- The log is called. -/
theorem Offs.log_to (h : Offs w o l d S SL SD O L D) (hto : LogTo w w1 l d SL SD L1 D1) : OffsTo w w1 o l d S SL SD O L1 D1 := by
  obtain ⟨SL1, SD1, a1, b1, f1, s1, t1⟩ := hto
  refine ⟨S, SL1, SD1, ⟨h.off.fr f1 (fun k hk h9 => ?_), a1, b1⟩, f1.mono (fun k _ hk => .inr hk), fun _ hk => .inl hk, s1, t1⟩
  rcases h9 with h9 | h9
  · exact h.off.notLog h.log hk h9
  · exact h.off.notDisk h.disk hk h9

/-- The offsets turn. -/
theorem Offs.off_to (h : Offs w o l d S SL SD O L D) (hto : OffTo w w1 o l S O1) : OffsTo w w1 o l d S SL SD O1 L D := by
  obtain ⟨S1, a1, f1, s1⟩ := hto
  exact ⟨S1, SL, SD, ⟨a1, h.log.fr f1 (fun k hk h9 => h.off.notLog h.log h9 hk), h.disk.fr f1 (fun k hk h9 => h.off.notDisk h.disk h9 hk)⟩, f1.mono (fun k _ hk => .inl hk), s1, fun _ hk => .inl hk, fun _ hk => .inl hk⟩

/-- A block of another type stays. -/
theorem Offs.blk (h : Offs w o l d S SL SD O L D) (hto : OffsTo w w1 o l d S SL SD O1 L1 D1) {b : Nat} {c : Array Value} (hb : Blk w b c 171) : Blk w1 b c 171 := by
  obtain ⟨S1, SL1, SD1, a1, f1, _⟩ := hto
  refine hb.fr f1 (fun h9 => ?_)
  rcases h9 with h9 | h9 | h9
  · obtain ⟨c2, T, h2, hT⟩ := h.off.kind h9
    have := (hb.inj h2).2
    rcases hT with rfl | rfl | rfl <;> exact absurd this (by decide)
  · have hb2 : w.heap[b]? = some (.cells c 171 (0, 0)) := hb
    exact h.log.other hb2 (by decide) (by decide) (by decide) h9
  · exact h.disk.other hb (by decide) (by decide) h9
end

theorem Blk.cells3 {w : World} {b : Nat} {T : TypeId} {x0 x1 x2 x3 x4 : Value} (h : Blk w b #[x0, x1, x2, x3, x4] T) (y0 y1 y2 : Value) : Blk (w.setCells b 0 [y0, y1, y2]) b #[y0, y1, y2, x3, x4] T := by
  have h9 := ((h.set 0 y0).set 1 y1).set 2 y2
  simpa [World.setCells] using h9
theorem Blk.cells4 {w : World} {b : Nat} {T : TypeId} {x0 x1 x2 x3 x4 : Value} (h : Blk w b #[x0, x1, x2, x3, x4] T) (y0 y1 y2 y3 : Value) : Blk (w.setCells b 0 [y0, y1, y2, y3]) b #[y0, y1, y2, y3, x4] T := by
  have h9 := (((h.set 0 y0).set 1 y1).set 2 y2).set 3 y3
  simpa [World.setCells] using h9
theorem Blk.cells5 {w : World} {b : Nat} {T : TypeId} {x0 x1 x2 x3 x4 : Value} (h : Blk w b #[x0, x1, x2, x3, x4] T) (y0 y1 y2 y3 y4 : Value) : Blk (w.setCells b 0 [y0, y1, y2, y3, y4]) b #[y0, y1, y2, y3, y4] T := by
  have h9 := ((((h.set 0 y0).set 1 y1).set 2 y2).set 3 y3).set 4 y4
  simpa [World.setCells] using h9

/-- The numbers that are handed to write, and the note. -/
def Handed (xs : List Int) (n : PNote) : Prop :=
  (xs = [n.kind, n.a, n.b] ∧ n.c = 0 ∧ n.d = 0) ∨ (xs = [n.kind, n.a, n.b, n.c] ∧ n.d = 0) ∨ xs = [n.kind, n.a, n.b, n.c, n.d]

theorem Handed.len {xs : List Int} {n : PNote} (h : Handed xs n) : 1 ≤ xs.length ∧ xs.length ≤ 5 := by
  rcases h with ⟨rfl, _⟩ | ⟨rfl, _⟩ | rfl <;> simp

theorem Handed.blk {xs : List Int} {n : PNote} (h : Handed xs n) {w : World} {b : Nat} {T : TypeId} (hb : Blk w b #[.int .i64 0, .int .i64 0, .int .i64 0, .int .i64 0, .int .i64 0] T) :
    Blk (w.setCells b 0 (xs.map (Value.int .i64))) b #[.int .i64 n.kind, .int .i64 n.a, .int .i64 n.b, .int .i64 n.c, .int .i64 n.d] T := by
  rcases h with ⟨rfl, h1, h2⟩ | ⟨rfl, h2⟩ | rfl
  · have h9 := hb.cells3 (.int .i64 n.kind) (.int .i64 n.a) (.int .i64 n.b)
    rw [h1, h2]; exact h9
  · have h9 := hb.cells4 (.int .i64 n.kind) (.int .i64 n.a) (.int .i64 n.b) (.int .i64 n.c)
    rw [h2]; exact h9
  · exact hb.cells5 _ _ _ _ _

theorem items_new (w : World) (a b : Value) (T : TypeId) : Reads (w.alloc (.cells #[a, b] T)) (.slice (some ⟨w.heap.size, 0, none⟩) 1 1) 1 2 [a, b] := by
  refine ⟨rfl, _, _, rfl, fun j u hj => ⟨_, rfl, ?_⟩⟩
  have h := (Blk.new w #[a, b] T).cell (i := j) (v := u) (by simpa using hj)
  exact h

theorem OffAt.c0 {w : World} {o l : Nat} {S : Nat → Prop} {O : POff} (h : OffAt w o l S O) : w.cell? ⟨o, 0, none⟩ = some (.pointer (some ⟨l, 0, none⟩)) := by
  obtain ⟨cv, pv, hrep, _⟩ := h
  exact hrep.cells.1

def WritePost (w : World) (o l d : Nat) (S SL SD : Nat → Prop) (r : POff × PLog × PDisk × Int) (e : Ending) (w' : World) : Prop :=
  e = .returned (.int .i64 r.2.2.2) ∧ OffsTo w w' o l d S SL SD r.1 r.2.1 r.2.2.1

set_option maxHeartbeats 4000000 in
theorem write_any {w : World} {o l d b cap : Nat} {S SL SD : Nat → Prop} {O : POff} {A : ALog} {D : PDisk} {N : Int} {xs : List Int} {n : PNote} (h : Offs w o l d S SL SD O A.toP D) (hok : O.Ok) (hlen : O.com.length ≤ 4) (hi : Inv A D) (hw : D.WF N) (he : A.e = 0)
    (hx : Handed xs n) (hr : ∀ x ∈ n.nums, -9223372036854775808 ≤ x ∧ x ≤ 9223372036854775807) (hcap : xs.length ≤ cap) (hc : ∀ j x, xs[j]? = some x → w.cell? ⟨b, j, none⟩ = some (.int .i64 x)) :
    Calls Tryz.prog 90 #[.pointer (some ⟨o, 0, none⟩), .slice (some ⟨b, 0, none⟩) xs.length cap] w (WritePost w o l d S SL SD (O.write A.toP D n)) := by
  have hwl := hi.wf hw
  have htl := text_len' hr
  -- what the log's Append comes to
  have hout := hi.append_out hw he [⟨1, n.text⟩]
  have hwf1 : (A.toP.append D [⟨1, n.text⟩]).2.1.WF N := PLog.append_disk hw _
  have hwl1 : (A.toP.append D [⟨1, n.text⟩]).2.2.2 = 0 → (A.toP.append D [⟨1, n.text⟩]).1.WF := by
    rw [toP_append] at hwf1 ⊢
    generalize A.append D [⟨1, n.text⟩] = r at hout hwf1 ⊢
    cases hout with
    | ok A' D' inv => exact fun _ => inv.wf hwf1
    | full A' D' inv => exact fun h9 => absurd h9 (show ¬ ((5 : Int) = 0) by decide)
    | bad c why => exact fun _ => hwl
    | dark A' A2 D' => exact fun h9 => absurd h9 (show ¬ ((4 : Int) = 0) by decide)
  clear hout
  have HAPP : Hid (∀ W iv, Offs W o l d S SL SD O A.toP D → Reads W iv 1 2 [.int .i64 1, .string (bs n.text)] → Calls Tryz.prog 14 #[.pointer (some ⟨l, 0, none⟩), iv] W (AppPost W l d SL SD (A.toP.append D [⟨1, n.text⟩]))) := hid (fun W iv hW hiv =>
    append_all iv [⟨1, n.text⟩] hW.log hW.disk hw hwl hiv (by simp) (by intro x hx; simp only [List.mem_singleton] at hx; subst hx; show n.text.length ≤ _; omega))
  have HPUT : Hid (∀ W B, Blk W B #[.int .i64 n.kind, .int .i64 n.a, .int .i64 n.b, .int .i64 n.c, .int .i64 n.d] 171 → Calls Tryz.prog 114 #[.slice (some ⟨B, 0, none⟩) 5 5] W fun e w' => e = .returned (.string (bs n.text)) ∧ Below W.heap.size W w') := hid (fun W B hB =>
    putAll_any B 5 n.nums W (by simp [PNote.nums]) hr (by
      intro i hi9
      have h9 : i < 5 := hi9
      match i, h9 with
      | 0, _ => exact hB.cell rfl
      | 1, _ => exact hB.cell rfl
      | 2, _ => exact hB.cell rfl
      | 3, _ => exact hB.cell rfl
      | 4, _ => exact hB.cell rfl))
  obtain ⟨L1, D1, off1, err1, hA1⟩ : ∃ L1 D1 off1 err1, A.toP.append D [⟨1, n.text⟩] = (L1, D1, off1, err1) := ⟨_, _, _, _, rfl⟩
  rw [hA1] at hwf1 hwl1 HAPP
  dsimp only at hwf1 hwl1
  have hwr : O.write A.toP D n = if err1 ≠ 0 then (O, L1, D1, err1) else if (L1.sync D1).2.2 ≠ 0 then (O, (L1.sync D1).1, (L1.sync D1).2.1, (L1.sync D1).2.2) else ((O.fold n).getD O, (L1.sync D1).1, (L1.sync D1).2.1, 0) := by
    unfold POff.write; rw [hA1]
  have HWR := hid hwr
  have HI := hid hi
  have hxl := hx.len
  have HX := hid hx
  have HC := hid hc
  have HO := hid h
  have HW1 := hid hwf1
  have HL1 := hid hwl1
  have HOK := hid hok
  obtain ⟨cv, pv, hrep, _⟩ := h.off
  have c0 := hrep.cells.1
  have ho := hrep.hdr.lt
  have hb : b < w.heap.size := World.block_lt_of_cell? w ⟨b, 0, none⟩ (hc 0 (xs.getD 0 0) (by
    rw [List.getD_eq_getElem?_getD]
    cases xs with
    | nil => simp at hxl
    | cons x r => rfl))
  have hne : o ≠ w.heap.size := by omega
  have hbne : b ≠ w.heap.size := by omega
  have hcl : xs.length = Nat.min xs.length 5 := (Nat.min_eq_left hxl.2).symm
  -- the copy
  have hblk0 := Blk.new w #[.int .i64 0, .int .i64 0, .int .i64 0, .int .i64 0, .int .i64 0] 171
  have hba : Below w.heap.size w (w.alloc (.cells #[.int .i64 0, .int .i64 0, .int .i64 0, .int .i64 0, .int .i64 0] 171)) := bel_alloc (Below.refl _ _) _
  have hcopy : ∀ ty, (Builtin.copy_ #[40, 40] ty #[.slice (some ⟨w.heap.size, 0, none⟩) 5 5, .slice (some ⟨b, 0, none⟩) xs.length cap]).run Tryz.prog (w.alloc (.cells #[.int .i64 0, .int .i64 0, .int .i64 0, .int .i64 0, .int .i64 0] 171)) = .ok (goInt xs.length) ((w.alloc (.cells #[.int .i64 0, .int .i64 0, .int .i64 0, .int .i64 0, .int .i64 0] 171)).setCells w.heap.size 0 (xs.map (Value.int .i64))) := by
    intro ty
    have h9 := run_copy_cells (P := Tryz.prog) (w.alloc (.cells #[.int .i64 0, .int .i64 0, .int .i64 0, .int .i64 0, .int .i64 0] 171)) 40 40 ty 3 w.heap.size 0 5 5 ⟨b, 0, none⟩ xs.length cap (xs.map (Value.int .i64)) Tryz.underlying40 (by kernel_rfl)
      (by rw [List.length_map]; exact hcl) (fun j v hj => by
        rw [List.getElem?_map] at hj
        cases hq : xs[j]? with
        | none => rw [hq] at hj; cases hj
        | some q =>
          rw [hq] at hj
          simp only [Option.map_some, Option.some.injEq] at hj
          subst hj
          rw [Addr.add_lit, Nat.zero_add]
          exact (hba.cell (p := ⟨b, j, none⟩) hb).trans (HC.out j q hq)) (fun j hj => by
        rw [List.length_map] at hj
        have h8 : j < 5 := by omega
        rw [Nat.zero_add]
        match j, h8 with
        | 0, _ => rw [hblk0.cell (i := 0) rfl]; rfl
        | 1, _ => rw [hblk0.cell (i := 1) rfl]; rfl
        | 2, _ => rw [hblk0.cell (i := 2) rfl]; rfl
        | 3, _ => rw [hblk0.cell (i := 3) rfl]; rfl
        | 4, _ => rw [hblk0.cell (i := 4) rfl]; rfl) (fun j _ => hblk0.free _) (fun v hv => by
        obtain ⟨q, _, rfl⟩ := List.mem_map.1 hv
        rfl)
    rw [List.length_map] at h9
    exact h9
  have hblk1 := HX.out.blk hblk0
  have hb1 : Below w.heap.size w ((w.alloc (.cells #[.int .i64 0, .int .i64 0, .int .i64 0, .int .i64 0, .int .i64 0] 171)).setCells w.heap.size 0 (xs.map (Value.int .i64))) :=
    (fr_cells (S := fun k => k = w.heap.size) rfl _ (Fr.of_below (S := fun k => k = w.heap.size) hba)).to_below (Nat.le_refl _) (fun k hk e => by omega)
  clear hblk0 hba hwf1 hwl1 hwl htl hc h hok hrep hcl hA1 hwr hx hr he hi hw
  generalize O.write A.toP D n = rr at HWR ⊢
  generalize (w.alloc (.cells #[.int .i64 0, .int .i64 0, .int .i64 0, .int .i64 0, .int .i64 0] 171)).setCells w.heap.size 0 (xs.map (Value.int .i64)) = w1 at hcopy hblk1 hb1
  have hw1 := hblk1.lt
  have e0 : w1.cell? ⟨o, 0, none⟩ = some (ptr l) := (hb1.cell (p := ⟨o, 0, none⟩) ho).trans c0
  have ho1 : o < w1.heap.size := by have := hb1.size; omega
  have HB1 := hid hb1
  have HBLK1 := hid hblk1
  clear c0 hb1
  unfold ptr at e0
  go_enter Tryz.func90, Tryz.ntmps90
  go_wp2_with fail
  refine wp_region_lex (fun w' => w'.cell? ⟨o, 0, none⟩ = some (.pointer (some ⟨l, 0, none⟩))) [5, 7, 8] (by kernel_rfl) (by kernel_rfl) (fun _ _ _ _ _ h => h) (by go_keep) (fun hHeld => ?_)
  iterate 5
    refine lex_take (v := ?_) (by kernel_rfl) (by kernel_rfl) ?_ ?_
    rotate_left
    focus
      intro w' hSw
      try dsimp only at hSw
      go_simp <;> with_reducible rfl
    simp only [Act.put, List.setIfInBounds_toArray, List.set_cons_zero, List.set_cons_succ]
  refine lex_step (by kernel_rfl) (by kernel_rfl) (fun K hK => ?_)
  go_simp
  refine (HPUT.out _ _ HBLK1.out.drew).mono ?_
  rintro e w2 ⟨rfl, hb2⟩
  have y0 : w2.cell? ⟨o, 0, none⟩ = some (.pointer (some ⟨l, 0, none⟩)) := (hb2.cell (p := ⟨o, 0, none⟩) (by simp <;> omega)).trans (by go_simp)
  have HB2 : Hid (Below w.heap.size w w2) := hid (bel_next HB1.out.drew hb2)
  have HBK2 : Hid (Blk w2 w.heap.size #[.int .i64 n.kind, .int .i64 n.a, .int .i64 n.b, .int .i64 n.c, .int .i64 n.d] 171) := hid (HBLK1.out.drew.below' hb2)
  clear hb2
  go_simp
  refine hK.out _ _ (by exact y0) (fun hHeld => ?_)
  clear hK K
  try simp only [Act.put, List.setIfInBounds_toArray, List.set_cons_zero, List.set_cons_succ]
  iterate 1
    refine lex_take (v := ?_) (by kernel_rfl) (by kernel_rfl) ?_ ?_
    rotate_left
    focus
      intro w' hSw
      try dsimp only at hSw
      go_simp <;> with_reducible rfl
    simp only [Act.put, List.setIfInBounds_toArray, List.set_cons_zero, List.set_cons_succ]
  refine lex_step (by kernel_rfl) (by kernel_rfl) (fun K hK => ?_)
  go_simp
  refine hK.out _ _ (by exact Lib.cell?_alloc_some _ hHeld) (fun hHeld => ?_)
  clear hK K
  try simp only [Act.put, List.setIfInBounds_toArray, List.set_cons_zero, List.set_cons_succ]
  refine lex_step (by kernel_rfl) (by kernel_rfl) (fun K hK => ?_)
  go_simp
  refine (HAPP.out _ _ (HO.out.below (bel_alloc HB2.out _)) (items_new w2 _ _ _)).mono ?_
  rintro e w3 ⟨rfl, hto⟩
  have HT : Hid (OffsTo (w2.alloc (.cells #[.int .i64 1, .string (bs n.text)] 102)) w3 o l d S SL SD O L1 D1) := hid ((HO.out.below (bel_alloc HB2.out _)).log_to hto)
  have y1 : w3.cell? ⟨o, 0, none⟩ = some (.pointer (some ⟨l, 0, none⟩)) := by
    obtain ⟨S1, SL1, SD1, a1, _⟩ := HT.out
    exact a1.off.c0
  clear hto
  go_simp
  refine hK.out _ _ (by exact y1) (fun hHeld => ?_)
  clear hK K
  try simp only [Act.put, List.setIfInBounds_toArray, List.set_cons_zero, List.set_cons_succ]
  iterate 5
    refine lex_take (v := ?_) (by kernel_rfl) (by kernel_rfl) ?_ ?_
    rotate_left
    focus
      intro w' hSw
      try dsimp only at hSw
      go_simp <;> with_reducible rfl
    simp only [Act.put, List.setIfInBounds_toArray, List.set_cons_zero, List.set_cons_succ]
  refine lex_nil ?_
  have HT0 : Hid (OffsTo w w3 o l d S SL SD O L1 D1) := hid (OffsTo.after (bel_alloc HB2.out _) HT.out)
  have HBK3 : Hid (Blk w3 w.heap.size #[.int .i64 n.kind, .int .i64 n.a, .int .i64 n.b, .int .i64 n.c, .int .i64 n.d] 171) := hid ((HO.out.below (bel_alloc HB2.out _)).blk HT.out (HBK2.out.below' (bel_alloc (Below.refl _ _) _)))
  clear HT HBK2
  by_cases herr : err1 = 0
  · subst herr
    have HL2 : Hid L1.WF := hid (HL1.out rfl)
    clear HL1
    have HR1 := hid (HWR.out.trans (if_neg (show ¬ ((0 : Int) ≠ 0) by decide)))
    clear HWR
    obtain ⟨S1, SL1, SD1, a1⟩ := HT0.out
    have y2 : w3.cell? ⟨o, 0, none⟩ = some (.pointer (some ⟨l, 0, none⟩)) := a1.1.off.c0
    have HA1 := hid a1
    clear a1 HT0
    go_wp2_with fail
    refine (logSync_any HA1.out.1.log HA1.out.1.disk HW1.out HL2.out).mono ?_
    rintro e w4 ⟨rfl, hto2⟩
    have HT1 := hid (HA1.out.1.log_to hto2)
    have HT2 := hid (OffsTo.next HA1.out HT1.out)
    have HBK4 := hid (HA1.out.1.blk HT1.out HBK3.out)
    obtain ⟨L2, D2, err2, hs2⟩ : ∃ L2 D2 err2, L1.sync D1 = (L2, D2, err2) := ⟨_, _, _, rfl⟩
    rw [hs2] at HT1 HT2 HR1 ⊢
    clear hto2 hs2 HBK3 HT1 HA1
    by_cases herr2 : err2 = 0
    · subst herr2
      have HR2 := hid (HR1.out.trans (if_neg (show ¬ ((0 : Int) ≠ 0) by decide)))
      clear HR1
      obtain ⟨S2, SL2, SD2, a2⟩ := HT2.out
      have HA2 := hid a2
      have k0 := HBK4.out.cell (i := 0) (v := .int .i64 n.kind) rfl
      have k1 := HBK4.out.cell (i := 1) (v := .int .i64 n.a) rfl
      have k2 := HBK4.out.cell (i := 2) (v := .int .i64 n.b) rfl
      have k3 := HBK4.out.cell (i := 3) (v := .int .i64 n.c) rfl
      have k4 := HBK4.out.cell (i := 4) (v := .int .i64 n.d) rfl
      clear a2 HT2 HBK4
      go_wp2_with fail
      refine (fold_any n HA2.out.1.off HOK.out hlen).mono ?_
      rintro e w5 ⟨rfl, hto5⟩
      have HT5 := hid (OffsTo.next HA2.out (HA2.out.1.off_to hto5))
      clear hto5 HA2
      go_wp2_with fail
      go_ret
      unfold WritePost
      rw [HR2.out]
      exact ⟨rfl, HT5.out⟩
    · have hz1 : (err2 != 0) = true := by simpa using herr2
      have hz2 : decide (err2 = 0) = false := decide_eq_false herr2
      have HR2 := hid (HR1.out.trans (if_pos herr2))
      clear HR1
      go_wp2_with fail
      go_ret
      unfold WritePost
      rw [HR2.out]
      exact ⟨rfl, HT2.out⟩
  · have hz1 : (err1 != 0) = true := by simpa using herr
    have hz2 : decide (err1 = 0) = false := decide_eq_false herr
    have HR1 := hid (HWR.out.trans (if_pos herr))
    clear HWR
    go_wp2_with fail
    go_ret
    unfold WritePost
    rw [HR1.out]
    exact ⟨rfl, HT0.out⟩
end Go.Proofs.YtjodkcjlipecdaaGreatDoor

namespace Go.Proofs.YtjodkcjlipecdaaGreatDoor
open Go.RowKit

theorem WritePost.after {w w1 w2 : World} {o l d : Nat} {S SL SD : Nat → Prop} {r : POff × PLog × PDisk × Int} {e : Ending} (hb : Below w.heap.size w w1) (h : WritePost w1 o l d S SL SD r e w2) : WritePost w o l d S SL SD r e w2 := ⟨h.1, OffsTo.after hb h.2⟩

theorem WritePost.same {w w1 : World} {o l d : Nat} {S SL SD : Nat → Prop} {O : POff} {L : PLog} {D : PDisk} {c : Int} {r : POff × PLog × PDisk × Int} (h : Offs w o l d S SL SD O L D) (hb : Below w.heap.size w w1) (hr : r = (O, L, D, c)) : WritePost w o l d S SL SD r (.returned (.int .i64 c)) w1 := by
  subst hr
  exact ⟨rfl, OffsTo.of_below h hb⟩

theorem broken_is {w : World} {o l d : Nat} {S SL SD : Nat → Prop} {O : POff} {L : PLog} {D : PDisk} (h : Offs w o l d S SL SD O L D) (c : Int) (hc : L.e = c) : Calls Tryz.prog 74 #[.pointer (some ⟨l, 0, none⟩)] w fun e w' => e = .returned (.int .i64 c) ∧ w = w' := by
  have h9 := broken_any h.log
  rw [hc] at h9
  exact h9

set_option maxHeartbeats 2000000 in
theorem begin_any {w : World} {o l d : Nat} {S SL SD : Nat → Prop} {O : POff} {A : ALog} {D : PDisk} {N : Int} (g n : Int) (h : Offs w o l d S SL SD O A.toP D) (hok : O.Ok) (hlen : O.com.length ≤ 4) (hi : A.e = 0 → Inv A D ∧ D.WF N)
    (hg : -9223372036854775808 ≤ g ∧ g ≤ 9223372036854775807) (hn : -9223372036854775808 ≤ n ∧ n ≤ 9223372036854775807) :
    Calls Tryz.prog 37 #[.pointer (some ⟨o, 0, none⟩), .int .i64 g, .int .i64 n] w (WritePost w o l d S SL SD (O.begin A.toP D g n)) := by
  have HO := hid h
  have HOK := hid hok
  have HI := hid hi
  obtain ⟨cv, pv, hrep, _⟩ := h.off
  obtain ⟨c0, c1, c2, _, _⟩ := hrep.cells
  have ho := hrep.hdr.lt
  have hne : o ≠ w.heap.size := by omega
  unfold ptr at c0
  clear h hok hi hrep
  obtain ⟨rr, HR⟩ : ∃ rr, Hid (O.begin A.toP D g n = rr) := ⟨_, rfl⟩
  rw [HR.out]
  have hb0 : Below w.heap.size w (w.alloc (.cells #[.int .i64 g, .int .i64 n] 3)) := bel_alloc (Below.refl _ _) _
  have HB0 := hid hb0
  clear hb0
  by_cases hin : isNum g ∧ isNum n
  · have hd := decide_eq_true hin
    by_cases he : A.e = 0
    · have he2 : A.toP.e = 0 := he
      obtain ⟨hi1, hi2⟩ := HI.out he
      have HI1 := hid hi1
      have HI2 := hid hi2
      clear hi1 hi2
      by_cases hl1 : g < O.gen
      · have HF : Hid (rr = (O, A.toP, D, 9)) := hid (by rw [← HR.out]; unfold POff.begin; rw [if_neg (fun h9 => h9 hin), if_neg (fun h9 => h9 he2), if_pos (.inl hl1)])
        have d1 := decide_eq_true hl1
        clear HR hl1 hin
        go_enter Tryz.func37, Tryz.ntmps37
        go_wp2_with fail
        refine (within2 _ _ g n true _ hd (by go_simp) (by go_simp)).mono ?_
        rintro e w2 ⟨rfl, rfl⟩
        go_wp2_with fail
        refine (broken_is (HO.out.below HB0.out) 0 he2).mono ?_
        rintro e w3 ⟨rfl, rfl⟩
        go_wp2_with fail
        go_ret
        exact WritePost.same HO.out HB0.out HF.out
      · by_cases hl2 : n < O.next
        · have HF : Hid (rr = (O, A.toP, D, 9)) := hid (by rw [← HR.out]; unfold POff.begin; rw [if_neg (fun h9 => h9 hin), if_neg (fun h9 => h9 he2), if_pos (.inr hl2)])
          have d1 := decide_eq_false hl1
          have d2 := decide_eq_true hl2
          clear HR hl1 hl2 hin
          go_enter Tryz.func37, Tryz.ntmps37
          go_wp2_with fail
          refine (within2 _ _ g n true _ hd (by go_simp) (by go_simp)).mono ?_
          rintro e w2 ⟨rfl, rfl⟩
          go_wp2_with fail
          refine (broken_is (HO.out.below HB0.out) 0 he2).mono ?_
          rintro e w3 ⟨rfl, rfl⟩
          go_wp2_with fail
          go_ret
          exact WritePost.same HO.out HB0.out HF.out
        · have d1 := decide_eq_false hl1
          have d2 := decide_eq_false hl2
          have hnl : ¬ (g < O.gen ∨ n < O.next) := fun h9 => h9.elim hl1 hl2
          by_cases hq1 : g = O.gen
          · by_cases hq2 : n = O.next
            · have HF : Hid (rr = (O, A.toP, D, 0)) := hid (by rw [← HR.out]; unfold POff.begin; rw [if_neg (fun h9 => h9 hin), if_neg (fun h9 => h9 he2), if_neg hnl, if_pos ⟨hq1, hq2⟩])
              have b1 : (g == O.gen) = true := by simpa using hq1
              have b2 : (n == O.next) = true := by simpa using hq2
              have b3 : decide (g = O.gen) = true := decide_eq_true hq1
              have b4 : decide (n = O.next) = true := decide_eq_true hq2
              clear HR hl1 hl2 hin hnl hq1 hq2
              go_enter Tryz.func37, Tryz.ntmps37
              go_wp2_with fail
              refine (within2 _ _ g n true _ hd (by go_simp) (by go_simp)).mono ?_
              rintro e w2 ⟨rfl, rfl⟩
              go_wp2_with fail
              refine (broken_is (HO.out.below HB0.out) 0 he2).mono ?_
              rintro e w3 ⟨rfl, rfl⟩
              go_wp2_with fail
              go_ret
              exact WritePost.same HO.out HB0.out HF.out
            · have HF : Hid (rr = O.write A.toP D ⟨1, g, n, 0, 0⟩) := hid (by rw [← HR.out]; unfold POff.begin; rw [if_neg (fun h9 => h9 hin), if_neg (fun h9 => h9 he2), if_neg hnl, if_neg (fun h9 => hq2 h9.2)])
              have b1 : (g == O.gen) = true := by simpa using hq1
              have b2 : (n == O.next) = false := by simpa using hq2
              have b3 : decide (g = O.gen) = true := decide_eq_true hq1
              have b4 : decide (n = O.next) = false := decide_eq_false hq2
              clear HR hl1 hl2 hin hnl hq1 hq2
              go_enter Tryz.func37, Tryz.ntmps37
              go_wp2_with fail
              refine (within2 _ _ g n true _ hd (by go_simp) (by go_simp)).mono ?_
              rintro e w2 ⟨rfl, rfl⟩
              go_wp2_with fail
              refine (broken_is (HO.out.below HB0.out) 0 he2).mono ?_
              rintro e w3 ⟨rfl, rfl⟩
              go_wp2_with fail
              refine (write_any (b := w.heap.size + 1) (cap := 3) (xs := [1, g, n]) (n := ⟨1, g, n, 0, 0⟩) (HO.out.below (bel_alloc HB0.out _)) HOK.out hlen HI1.out HI2.out he (.inl ⟨rfl, rfl, rfl⟩) (by
                intro x hx
                simp only [PNote.nums, List.mem_cons, List.not_mem_nil, or_false] at hx
                rcases hx with rfl | rfl | rfl | rfl | rfl <;> omega) (by simp) (by
                intro j x hj
                match j, hj with
                | 0, hj => simp at hj; subst hj; go_simp
                | 1, hj => simp at hj; subst hj; go_simp
                | 2, hj => simp at hj; subst hj; go_simp
                | j + 3, hj => simp at hj)).mono ?_
              rintro e w4 hp
              have HP := hid (hp.after (bel_alloc HB0.out _))
              obtain ⟨rfl, _⟩ := hp
              go_wp2_with fail
              go_ret
              rw [HF.out]
              exact HP.out
          · have HF : Hid (rr = O.write A.toP D ⟨1, g, n, 0, 0⟩) := hid (by rw [← HR.out]; unfold POff.begin; rw [if_neg (fun h9 => h9 hin), if_neg (fun h9 => h9 he2), if_neg hnl, if_neg (fun h9 => hq1 h9.1)])
            have b1 : (g == O.gen) = false := by simpa using hq1
            have b3 : decide (g = O.gen) = false := decide_eq_false hq1
            clear HR hl1 hl2 hin hnl hq1
            go_enter Tryz.func37, Tryz.ntmps37
            go_wp2_with fail
            refine (within2 _ _ g n true _ hd (by go_simp) (by go_simp)).mono ?_
            rintro e w2 ⟨rfl, rfl⟩
            go_wp2_with fail
            refine (broken_is (HO.out.below HB0.out) 0 he2).mono ?_
            rintro e w3 ⟨rfl, rfl⟩
            go_wp2_with fail
            refine (write_any (b := w.heap.size + 1) (cap := 3) (xs := [1, g, n]) (n := ⟨1, g, n, 0, 0⟩) (HO.out.below (bel_alloc HB0.out _)) HOK.out hlen HI1.out HI2.out he (.inl ⟨rfl, rfl, rfl⟩) (by
              intro x hx
              simp only [PNote.nums, List.mem_cons, List.not_mem_nil, or_false] at hx
              rcases hx with rfl | rfl | rfl | rfl | rfl <;> omega) (by simp) (by
              intro j x hj
              match j, hj with
              | 0, hj => simp at hj; subst hj; go_simp
              | 1, hj => simp at hj; subst hj; go_simp
              | 2, hj => simp at hj; subst hj; go_simp
              | j + 3, hj => simp at hj)).mono ?_
            rintro e w4 hp
            have HP := hid (hp.after (bel_alloc HB0.out _))
            obtain ⟨rfl, _⟩ := hp
            go_wp2_with fail
            go_ret
            rw [HF.out]
            exact HP.out
    · have he2 : ¬ A.toP.e = 0 := he
      obtain ⟨c, hc⟩ : ∃ c, A.toP.e = c := ⟨_, rfl⟩
      have HF : Hid (rr = (O, A.toP, D, c)) := hid (by rw [← HR.out, ← hc]; unfold POff.begin; rw [if_neg (fun h9 => h9 hin), if_pos he2])
      have HC := hid hc
      rw [hc] at he2
      have z1 : (c != 0) = true := by simpa using he2
      have z2 : decide (c = 0) = false := decide_eq_false he2
      clear HR he hin hc he2
      go_enter Tryz.func37, Tryz.ntmps37
      go_wp2_with fail
      refine (within2 _ _ g n true _ hd (by go_simp) (by go_simp)).mono ?_
      rintro e w2 ⟨rfl, rfl⟩
      go_wp2_with fail
      refine (broken_is (HO.out.below HB0.out) c HC.out).mono ?_
      rintro e w3 ⟨rfl, rfl⟩
      go_wp2_with fail
      refine (broken_is (HO.out.below HB0.out) c HC.out).mono ?_
      rintro e w3 ⟨rfl, rfl⟩
      go_wp2_with fail
      go_ret
      exact WritePost.same HO.out HB0.out HF.out
  · have hd := decide_eq_false hin
    have HF : Hid (rr = (O, A.toP, D, 1)) := hid (by rw [← HR.out]; unfold POff.begin; rw [if_pos hin])
    clear HR hin
    go_enter Tryz.func37, Tryz.ntmps37
    go_wp2_with fail
    refine (within2 _ _ g n false _ hd (by go_simp) (by go_simp)).mono ?_
    rintro e w2 ⟨rfl, rfl⟩
    go_wp2_with fail
    go_ret
    exact WritePost.same HO.out HB0.out HF.out
end Go.Proofs.YtjodkcjlipecdaaGreatDoor

namespace Go.Proofs.YtjodkcjlipecdaaGreatDoor
open Go.RowKit

theorem OffRep.comAt {w : World} {o l : Nat} {cv pv : Value} {O : POff} (h : OffRep w o l cv pv O) {k : Nat} (hk : k < O.com.length) : ∃ g cap, cv = .slice (some ⟨g, 0, none⟩) O.com.length cap ∧ g < w.heap.size ∧ w.cell? ⟨g, k, none⟩ = some (.int .i64 (O.at k)) := by
  rcases Joins.ownsRow_forms h.com with ⟨_, hz⟩ | ⟨g, cap, rfl⟩
  · omega
  · refine ⟨g, cap, rfl, (h.com.lt g rfl).2, ?_⟩
    rw [h.com.cellAt k (by omega)]
    unfold comCells POff.at
    rw [List.getElem?_map, List.getElem?_eq_getElem hk, List.getD_eq_getElem?_getD]
    simp [hk]

def i64 (n : Int) : Prop := -9223372036854775808 ≤ n ∧ n ≤ 9223372036854775807

set_option maxHeartbeats 4000000 in
theorem pendOne_any {w : World} {o l d : Nat} {S SL SD : Nat → Prop} {O : POff} {A : ALog} {D : PDisk} {N : Int} (pid epoch part frm off : Int) (h : Offs w o l d S SL SD O A.toP D) (hok : O.Ok) (hlen : O.com.length ≤ 4) (hi : A.e = 0 → Inv A D ∧ D.WF N) :
    Calls Tryz.prog 30 #[.pointer (some ⟨o, 0, none⟩), .int .i64 pid, .int .i64 epoch, .int .i64 part, .int .i64 frm, .int .i64 off] w (WritePost w o l d S SL SD (O.pendOne A.toP D pid epoch part frm off)) := by
  have HO := hid h
  have HOK := hid hok
  have HI := hid hi
  have hpl := hok.few
  obtain ⟨cv, pv, hrep, _⟩ := h.off
  obtain ⟨ad, cap, rfl⟩ := row_slice hrep.com
  obtain ⟨c0, _, _, c3, c4⟩ := hrep.cells
  have ho := hrep.hdr.lt
  have hne : o ≠ w.heap.size := by omega
  have HREP := hid hrep
  unfold ptr at c0
  clear h hok hi hrep
  obtain ⟨rr, HR⟩ : ∃ rr, Hid (O.pendOne A.toP D pid epoch part frm off = rr) := ⟨_, rfl⟩
  rw [HR.out]
  have HB0 : Hid (Below w.heap.size w (w.alloc (.cells #[.int .i64 part] 3))) := hid (bel_alloc (Below.refl _ _) _)
  have HBX : Hid (Blk (w.alloc (.cells #[.int .i64 part] 3)) w.heap.size #[.int .i64 part] 3) := hid (Blk.new _ _ _)
  have eg1 : ∀ args w, (callFunc 89 args).run Tryz.prog w = .ok (.enter 89 args) w := enters_of Tryz.func89 (by kernel_rfl) rfl
  have hno : ¬ (isProd pid epoch ∧ O.isPart part ∧ isNum frm ∧ isNum off) → rr = (O, A.toP, D, 1) := fun h9 => by rw [← HR.out]; unfold POff.pendOne; rw [if_pos h9]
  by_cases hp : isProd pid epoch
  · have hd1 := decide_eq_true hp
    by_cases hpt : O.isPart part
    · obtain ⟨k, rfl⟩ : ∃ k : Nat, part = k := ⟨part.toNat, by have := hpt.1; omega⟩
      have hd2 : decide ((0 : Int) ≤ (k : Int) ∧ (k : Int) < (O.com.length : Int)) = true := decide_eq_true hpt
      have hk1 : (k : Int) < (O.com.length : Int) := hpt.2
      have hk0 : (0 : Int) ≤ (k : Int) := hpt.1
      have hkn : k < O.com.length := by omega
      obtain ⟨g, cap2, e, hg, hgk⟩ := HREP.out.comAt hkn
      injection e with e _ _
      subst e
      have hgne : g ≠ w.heap.size := by omega
      by_cases hin : isNum frm ∧ isNum off
      · have hd3 := decide_eq_true hin
        by_cases he : A.e = 0
        · have he2 : A.toP.e = 0 := he
          obtain ⟨hi1, hi2⟩ := HI.out he
          have HI1 := hid hi1
          have HI2 := hid hi2
          clear hi1 hi2
          have hdef : rr = match O.ofPart k with
              | x :: _ => (O, A.toP, D, x.told pid epoch off (O.at k = frm))
              | [] => if O.at k ≠ frm then (O, A.toP, D, 12) else if off < frm then (O, A.toP, D, 6) else O.write A.toP D ⟨2, pid, epoch, k, off⟩ := by
            rw [← HR.out]; unfold POff.pendOne; rw [if_neg (fun h9 => h9 ⟨hp, hpt, hin.1, hin.2⟩), if_neg (fun h9 => h9 he2)]; cases O.ofPart k <;> rfl
          obtain ⟨q, hq⟩ : ∃ q, O.ofPart k = q := ⟨_, rfl⟩
          obtain ⟨m, hm⟩ : ∃ m, q.length = m := ⟨_, rfl⟩
          have HOF : Hid (∀ W, Below w.heap.size w W → Blk W w.heap.size #[.int .i64 k] 3 → Calls Tryz.prog 88 #[.pointer (some ⟨o, 0, none⟩), .func (.func 89) #[] #[.pointer (some ⟨w.heap.size, 0, none⟩)]] W
              fun e w' => ∃ v', e = .returned v' ∧ w'.ownsRow W.heap.size 78 4 v' m (pendCells q) ∧ Below W.heap.size W w') := hid (fun W hW hB => by
            have h9 := of_any (o := o) (l := O.pend) (base := 0) ((hW.cell (p := ⟨o, 4, none⟩) ho).trans c4) (own_bel HREP.out.pend hW) (by omega) eg1 (pend1_any hB (fun h => h))
            have e9 : (O.pend.filter fun x => x.part == (k : Int)) = q := hq
            rw [e9, hm] at h9
            exact h9)
          rw [hq] at hdef
          have hin3 : isNum off := hin.2
          clear HR hno hq
          cases q with
          | nil =>
            have hm0 : m = 0 := hm.symm
            subst hm0
            dsimp only at hdef
            by_cases hat : O.at k = frm
            · rw [if_neg (fun h9 => h9 hat)] at hdef
              have b1 : (O.at k != frm) = false := by simpa using hat
              have b2 : decide (O.at k = frm) = true := decide_eq_true hat
              have b3 : (O.at k == frm) = true := by simpa using hat
              by_cases hlt : off < frm
              · rw [if_pos hlt] at hdef
                have d1 := decide_eq_true hlt
                have HF := hid hdef
                clear hdef hat hlt hp hpt hin hm
                go_enter Tryz.func30, Tryz.ntmps30
                go_wp2_with fail
                refine (producer_is pid epoch true _ hd1).mono ?_
                rintro e w2 ⟨rfl, rfl⟩
                go_wp2_with fail
                refine (part_is (ad := some ⟨g, 0, none⟩) (cap := cap) (n := O.com.length) k true (by go_simp) hd2).mono ?_
                rintro e w2 ⟨rfl, rfl⟩
                go_wp2_with fail
                refine (within2 _ _ frm off true _ hd3 (by go_simp) (by go_simp)).mono ?_
                rintro e w2 ⟨rfl, rfl⟩
                go_wp2_with fail
                refine (broken_is (HO.out.below (bel_alloc HB0.out _)) 0 he2).mono ?_
                rintro e w3 ⟨rfl, rfl⟩
                go_wp2_with fail
                refine (HOF.out _ (bel_alloc HB0.out _) (HBX.out.alloc _)).mono ?_
                rintro e w5 ⟨v5, rfl, hrow5, hb5⟩
                obtain ⟨ad5, cap5, rfl⟩ := row_slice hrow5
                have HB5 : Hid (Below w.heap.size w w5) := hid (bel_next (bel_alloc HB0.out _) hb5)
                have HX5 : Hid (Blk w5 w.heap.size #[.int .i64 k] 3) := hid ((HBX.out.alloc _).below' hb5)
                have y0 : w5.cell? ⟨w.heap.size, 0, none⟩ = some (.int .i64 k) := HX5.out.cell rfl
                have y1 : w5.cell? ⟨o, 0, none⟩ = some (.pointer (some ⟨l, 0, none⟩)) := (HB5.out.cell (p := ⟨o, 0, none⟩) ho).trans c0
                have y3 : w5.cell? ⟨o, 3, none⟩ = some (.slice (some ⟨g, 0, none⟩) O.com.length cap) := (HB5.out.cell (p := ⟨o, 3, none⟩) ho).trans c3
                have y4 : w5.cell? ⟨g, k, none⟩ = some (.int .i64 (O.at k)) := (HB5.out.cell (p := ⟨g, k, none⟩) hg).trans hgk
                have hs5 : w.heap.size < w5.heap.size := HX5.out.lt
                have ho5 : o < w5.heap.size := by omega
                clear hrow5 hb5
                go_wp2_with fail
                go_quiet (fail)
                go_wp2_with fail
                go_ret
                exact WritePost.same HO.out (bel_next HB5.out (bel_drewN _ _ _)) HF.out
              · rw [if_neg hlt] at hdef
                have d1 := decide_eq_false hlt
                have HF := hid hdef
                have HP := hid hp
                clear hdef hat hlt hp hpt hin hm
                go_enter Tryz.func30, Tryz.ntmps30
                go_wp2_with fail
                refine (producer_is pid epoch true _ hd1).mono ?_
                rintro e w2 ⟨rfl, rfl⟩
                go_wp2_with fail
                refine (part_is (ad := some ⟨g, 0, none⟩) (cap := cap) (n := O.com.length) k true (by go_simp) hd2).mono ?_
                rintro e w2 ⟨rfl, rfl⟩
                go_wp2_with fail
                refine (within2 _ _ frm off true _ hd3 (by go_simp) (by go_simp)).mono ?_
                rintro e w2 ⟨rfl, rfl⟩
                go_wp2_with fail
                refine (broken_is (HO.out.below (bel_alloc HB0.out _)) 0 he2).mono ?_
                rintro e w3 ⟨rfl, rfl⟩
                go_wp2_with fail
                refine (HOF.out _ (bel_alloc HB0.out _) (HBX.out.alloc _)).mono ?_
                rintro e w5 ⟨v5, rfl, hrow5, hb5⟩
                obtain ⟨ad5, cap5, rfl⟩ := row_slice hrow5
                have HB5 : Hid (Below w.heap.size w w5) := hid (bel_next (bel_alloc HB0.out _) hb5)
                have HX5 : Hid (Blk w5 w.heap.size #[.int .i64 k] 3) := hid ((HBX.out.alloc _).below' hb5)
                have y0 : w5.cell? ⟨w.heap.size, 0, none⟩ = some (.int .i64 k) := HX5.out.cell rfl
                have y1 : w5.cell? ⟨o, 0, none⟩ = some (.pointer (some ⟨l, 0, none⟩)) := (HB5.out.cell (p := ⟨o, 0, none⟩) ho).trans c0
                have y3 : w5.cell? ⟨o, 3, none⟩ = some (.slice (some ⟨g, 0, none⟩) O.com.length cap) := (HB5.out.cell (p := ⟨o, 3, none⟩) ho).trans c3
                have y4 : w5.cell? ⟨g, k, none⟩ = some (.int .i64 (O.at k)) := (HB5.out.cell (p := ⟨g, k, none⟩) hg).trans hgk
                have hs5 : w.heap.size < w5.heap.size := HX5.out.lt
                have ho5 : o < w5.heap.size := by omega
                clear hrow5 hb5
                go_wp2_with fail
                go_quiet (fail)
                go_wp2_with fail
                refine (write_any (b := w5.heap.size) (cap := 5) (xs := [2, pid, epoch, k, off]) (n := ⟨2, pid, epoch, k, off⟩) (HO.out.below (bel_alloc (bel_next HB5.out (bel_drewN _ _ _)) _)) HOK.out hlen HI1.out HI2.out he (.inr (.inr rfl)) (by
                  intro x hx
                  have h8 := HP.out
                  unfold isProd at h8
                  unfold isNum at hin3
                  simp only [PNote.nums, List.mem_cons, List.not_mem_nil, or_false] at hx
                  rcases hx with rfl | rfl | rfl | rfl | rfl <;> omega) (by simp) (by
                  intro j x hj
                  match j, hj with
                  | 0, hj => simp at hj; subst hj; exact (Blk.new (w5.drewN _) #[_, _, _, _, _] _).cell rfl
                  | 1, hj => simp at hj; subst hj; exact (Blk.new (w5.drewN _) #[_, _, _, _, _] _).cell rfl
                  | 2, hj => simp at hj; subst hj; exact (Blk.new (w5.drewN _) #[_, _, _, _, _] _).cell rfl
                  | 3, hj => simp at hj; subst hj; exact (Blk.new (w5.drewN _) #[_, _, _, _, _] _).cell rfl
                  | 4, hj => simp at hj; subst hj; exact (Blk.new (w5.drewN _) #[_, _, _, _, _] _).cell rfl
                  | j + 5, hj => simp at hj)).mono ?_
                rintro e w6 hp
                have HP6 := hid (hp.after (bel_alloc (bel_next HB5.out (bel_drewN _ _ _)) _))
                obtain ⟨rfl, _⟩ := hp
                go_wp2_with fail
                go_ret
                rw [HF.out]
                exact HP6.out
            · rw [if_pos hat] at hdef
              have b1 : (O.at k != frm) = true := by simpa using hat
              have b2 : decide (O.at k = frm) = false := decide_eq_false hat
              have b3 : (O.at k == frm) = false := by simpa using hat
              have HF := hid hdef
              clear hdef hat hp hpt hin hm
              go_enter Tryz.func30, Tryz.ntmps30
              go_wp2_with fail
              refine (producer_is pid epoch true _ hd1).mono ?_
              rintro e w2 ⟨rfl, rfl⟩
              go_wp2_with fail
              refine (part_is (ad := some ⟨g, 0, none⟩) (cap := cap) (n := O.com.length) k true (by go_simp) hd2).mono ?_
              rintro e w2 ⟨rfl, rfl⟩
              go_wp2_with fail
              refine (within2 _ _ frm off true _ hd3 (by go_simp) (by go_simp)).mono ?_
              rintro e w2 ⟨rfl, rfl⟩
              go_wp2_with fail
              refine (broken_is (HO.out.below (bel_alloc HB0.out _)) 0 he2).mono ?_
              rintro e w3 ⟨rfl, rfl⟩
              go_wp2_with fail
              refine (HOF.out _ (bel_alloc HB0.out _) (HBX.out.alloc _)).mono ?_
              rintro e w5 ⟨v5, rfl, hrow5, hb5⟩
              obtain ⟨ad5, cap5, rfl⟩ := row_slice hrow5
              have HB5 : Hid (Below w.heap.size w w5) := hid (bel_next (bel_alloc HB0.out _) hb5)
              have HX5 : Hid (Blk w5 w.heap.size #[.int .i64 k] 3) := hid ((HBX.out.alloc _).below' hb5)
              have y0 : w5.cell? ⟨w.heap.size, 0, none⟩ = some (.int .i64 k) := HX5.out.cell rfl
              have y1 : w5.cell? ⟨o, 0, none⟩ = some (.pointer (some ⟨l, 0, none⟩)) := (HB5.out.cell (p := ⟨o, 0, none⟩) ho).trans c0
              have y3 : w5.cell? ⟨o, 3, none⟩ = some (.slice (some ⟨g, 0, none⟩) O.com.length cap) := (HB5.out.cell (p := ⟨o, 3, none⟩) ho).trans c3
              have y4 : w5.cell? ⟨g, k, none⟩ = some (.int .i64 (O.at k)) := (HB5.out.cell (p := ⟨g, k, none⟩) hg).trans hgk
              have hs5 : w.heap.size < w5.heap.size := HX5.out.lt
              have ho5 : o < w5.heap.size := by omega
              clear hrow5 hb5
              go_wp2_with fail
              go_quiet (fail)
              go_wp2_with fail
              go_ret
              exact WritePost.same HO.out (bel_next HB5.out (bel_drewN _ _ _)) HF.out
          | cons x r =>
            have HM : Hid ((x :: r).length = m) := hid hm
            have hm0 : 0 < m := by rw [← hm]; simp
            have hm1 : (0 : Int) < (m : Int) := by omega
            have hgt1 : decide ((0 : Int) < (m : Int)) = true := decide_eq_true hm1
            have hgt2 : decide (0 < m) = true := decide_eq_true hm0
            dsimp only at hdef
            unfold PPend.told at hdef
            by_cases hx1 : x.pid = pid
            · have b1 : (x.pid != pid) = false := by simpa using hx1
              have b2 : decide (x.pid = pid) = true := decide_eq_true hx1
              rw [if_neg (fun h9 => h9 hx1)] at hdef
              by_cases hx2 : x.epoch = epoch
              · have b3 : (x.epoch == epoch) = true := by simpa using hx2
                have b4 : decide (x.epoch = epoch) = true := decide_eq_true hx2
                by_cases hx3 : x.off = off
                · have b5 : (x.off == off) = true := by simpa using hx3
                  have b6 : decide (x.off = off) = true := decide_eq_true hx3
                  by_cases hx4 : O.at k = frm
                  · have b7 : (O.at k == frm) = true := by simpa using hx4
                    have b8 : decide (O.at k = frm) = true := decide_eq_true hx4
                    rw [if_pos ⟨hx2, hx3, hx4⟩] at hdef
                    have HF := hid hdef
                    clear hdef hx1 hx2 hx3 hx4 hp hpt hin hm
                    go_enter Tryz.func30, Tryz.ntmps30
                    go_wp2_with fail
                    refine (producer_is pid epoch true _ hd1).mono ?_
                    rintro e w2 ⟨rfl, rfl⟩
                    go_wp2_with fail
                    refine (part_is (ad := some ⟨g, 0, none⟩) (cap := cap) (n := O.com.length) k true (by go_simp) hd2).mono ?_
                    rintro e w2 ⟨rfl, rfl⟩
                    go_wp2_with fail
                    refine (within2 _ _ frm off true _ hd3 (by go_simp) (by go_simp)).mono ?_
                    rintro e w2 ⟨rfl, rfl⟩
                    go_wp2_with fail
                    refine (broken_is (HO.out.below (bel_alloc HB0.out _)) 0 he2).mono ?_
                    rintro e w3 ⟨rfl, rfl⟩
                    go_wp2_with fail
                    refine (HOF.out _ (bel_alloc HB0.out _) (HBX.out.alloc _)).mono ?_
                    rintro e w5 ⟨v5, rfl, hrow5, hb5⟩
                    obtain ⟨ad5, cap5, rfl⟩ := row_slice hrow5
                    have HB5 : Hid (Below w.heap.size w w5) := hid (bel_next (bel_alloc HB0.out _) hb5)
                    have HX5 : Hid (Blk w5 w.heap.size #[.int .i64 k] 3) := hid ((HBX.out.alloc _).below' hb5)
                    have y0 : w5.cell? ⟨w.heap.size, 0, none⟩ = some (.int .i64 k) := HX5.out.cell rfl
                    have y1 : w5.cell? ⟨o, 0, none⟩ = some (.pointer (some ⟨l, 0, none⟩)) := (HB5.out.cell (p := ⟨o, 0, none⟩) ho).trans c0
                    have y3 : w5.cell? ⟨o, 3, none⟩ = some (.slice (some ⟨g, 0, none⟩) O.com.length cap) := (HB5.out.cell (p := ⟨o, 3, none⟩) ho).trans c3
                    have y4 : w5.cell? ⟨g, k, none⟩ = some (.int .i64 (O.at k)) := (HB5.out.cell (p := ⟨g, k, none⟩) hg).trans hgk
                    have hs5 : w.heap.size < w5.heap.size := HX5.out.lt
                    have ho5 : o < w5.heap.size := by omega
                    obtain ⟨g5, rfl⟩ : ∃ g5, ad5 = some ⟨g5, 0, none⟩ := by
                      rcases Joins.ownsRow_forms hrow5 with ⟨_, hz9⟩ | ⟨g9, cap9, e9⟩
                      · omega
                      · injection e9 with e9 _ _
                        exact ⟨g9, e9⟩
                    have hrow6 : w5.ownsRow (w.heap.size + 2) 78 4 (.slice (some ⟨g5, 0, none⟩) m cap5) (x :: r).length (pendCells (x :: r)) := by
                      have h9 := hrow5
                      have hsz9 : ((w.alloc (.cells #[.int .i64 k] 3)).alloc (.cells #[.int .i64 frm, .int .i64 off] 3)).heap.size = w.heap.size + 2 := by simp
                      rw [hsz9] at h9
                      rw [HM.out]; exact h9
                    obtain ⟨f0, f1, f2, f3⟩ := PendRead.own hrow6 0 x rfl
                    simp only [Nat.zero_mul, Nat.zero_add] at f0 f1 f2 f3
                    have hg5 := (hrow6.lt g5 rfl).2
                    clear hrow5 hb5 hrow6
                    go_wp2_with fail
                    go_quiet (fail)
                    go_wp2_with fail
                    go_ret
                    exact WritePost.same HO.out (bel_next HB5.out (bel_drewN _ _ _)) HF.out
                  · have b7 : (O.at k == frm) = false := by simpa using hx4
                    have b8 : decide (O.at k = frm) = false := decide_eq_false hx4
                    rw [if_neg (fun h9 => hx4 h9.2.2)] at hdef
                    have HF := hid hdef
                    clear hdef hx1 hx2 hx3 hx4 hp hpt hin hm
                    go_enter Tryz.func30, Tryz.ntmps30
                    go_wp2_with fail
                    refine (producer_is pid epoch true _ hd1).mono ?_
                    rintro e w2 ⟨rfl, rfl⟩
                    go_wp2_with fail
                    refine (part_is (ad := some ⟨g, 0, none⟩) (cap := cap) (n := O.com.length) k true (by go_simp) hd2).mono ?_
                    rintro e w2 ⟨rfl, rfl⟩
                    go_wp2_with fail
                    refine (within2 _ _ frm off true _ hd3 (by go_simp) (by go_simp)).mono ?_
                    rintro e w2 ⟨rfl, rfl⟩
                    go_wp2_with fail
                    refine (broken_is (HO.out.below (bel_alloc HB0.out _)) 0 he2).mono ?_
                    rintro e w3 ⟨rfl, rfl⟩
                    go_wp2_with fail
                    refine (HOF.out _ (bel_alloc HB0.out _) (HBX.out.alloc _)).mono ?_
                    rintro e w5 ⟨v5, rfl, hrow5, hb5⟩
                    obtain ⟨ad5, cap5, rfl⟩ := row_slice hrow5
                    have HB5 : Hid (Below w.heap.size w w5) := hid (bel_next (bel_alloc HB0.out _) hb5)
                    have HX5 : Hid (Blk w5 w.heap.size #[.int .i64 k] 3) := hid ((HBX.out.alloc _).below' hb5)
                    have y0 : w5.cell? ⟨w.heap.size, 0, none⟩ = some (.int .i64 k) := HX5.out.cell rfl
                    have y1 : w5.cell? ⟨o, 0, none⟩ = some (.pointer (some ⟨l, 0, none⟩)) := (HB5.out.cell (p := ⟨o, 0, none⟩) ho).trans c0
                    have y3 : w5.cell? ⟨o, 3, none⟩ = some (.slice (some ⟨g, 0, none⟩) O.com.length cap) := (HB5.out.cell (p := ⟨o, 3, none⟩) ho).trans c3
                    have y4 : w5.cell? ⟨g, k, none⟩ = some (.int .i64 (O.at k)) := (HB5.out.cell (p := ⟨g, k, none⟩) hg).trans hgk
                    have hs5 : w.heap.size < w5.heap.size := HX5.out.lt
                    have ho5 : o < w5.heap.size := by omega
                    obtain ⟨g5, rfl⟩ : ∃ g5, ad5 = some ⟨g5, 0, none⟩ := by
                      rcases Joins.ownsRow_forms hrow5 with ⟨_, hz9⟩ | ⟨g9, cap9, e9⟩
                      · omega
                      · injection e9 with e9 _ _
                        exact ⟨g9, e9⟩
                    have hrow6 : w5.ownsRow (w.heap.size + 2) 78 4 (.slice (some ⟨g5, 0, none⟩) m cap5) (x :: r).length (pendCells (x :: r)) := by
                      have h9 := hrow5
                      have hsz9 : ((w.alloc (.cells #[.int .i64 k] 3)).alloc (.cells #[.int .i64 frm, .int .i64 off] 3)).heap.size = w.heap.size + 2 := by simp
                      rw [hsz9] at h9
                      rw [HM.out]; exact h9
                    obtain ⟨f0, f1, f2, f3⟩ := PendRead.own hrow6 0 x rfl
                    simp only [Nat.zero_mul, Nat.zero_add] at f0 f1 f2 f3
                    have hg5 := (hrow6.lt g5 rfl).2
                    clear hrow5 hb5 hrow6
                    go_wp2_with fail
                    go_quiet (fail)
                    go_wp2_with fail
                    go_ret
                    exact WritePost.same HO.out (bel_next HB5.out (bel_drewN _ _ _)) HF.out
                · have b5 : (x.off == off) = false := by simpa using hx3
                  have b6 : decide (x.off = off) = false := decide_eq_false hx3
                  rw [if_neg (fun h9 => hx3 h9.2.1)] at hdef
                  have HF := hid hdef
                  clear hdef hx1 hx2 hx3 hp hpt hin hm
                  go_enter Tryz.func30, Tryz.ntmps30
                  go_wp2_with fail
                  refine (producer_is pid epoch true _ hd1).mono ?_
                  rintro e w2 ⟨rfl, rfl⟩
                  go_wp2_with fail
                  refine (part_is (ad := some ⟨g, 0, none⟩) (cap := cap) (n := O.com.length) k true (by go_simp) hd2).mono ?_
                  rintro e w2 ⟨rfl, rfl⟩
                  go_wp2_with fail
                  refine (within2 _ _ frm off true _ hd3 (by go_simp) (by go_simp)).mono ?_
                  rintro e w2 ⟨rfl, rfl⟩
                  go_wp2_with fail
                  refine (broken_is (HO.out.below (bel_alloc HB0.out _)) 0 he2).mono ?_
                  rintro e w3 ⟨rfl, rfl⟩
                  go_wp2_with fail
                  refine (HOF.out _ (bel_alloc HB0.out _) (HBX.out.alloc _)).mono ?_
                  rintro e w5 ⟨v5, rfl, hrow5, hb5⟩
                  obtain ⟨ad5, cap5, rfl⟩ := row_slice hrow5
                  have HB5 : Hid (Below w.heap.size w w5) := hid (bel_next (bel_alloc HB0.out _) hb5)
                  have HX5 : Hid (Blk w5 w.heap.size #[.int .i64 k] 3) := hid ((HBX.out.alloc _).below' hb5)
                  have y0 : w5.cell? ⟨w.heap.size, 0, none⟩ = some (.int .i64 k) := HX5.out.cell rfl
                  have y1 : w5.cell? ⟨o, 0, none⟩ = some (.pointer (some ⟨l, 0, none⟩)) := (HB5.out.cell (p := ⟨o, 0, none⟩) ho).trans c0
                  have y3 : w5.cell? ⟨o, 3, none⟩ = some (.slice (some ⟨g, 0, none⟩) O.com.length cap) := (HB5.out.cell (p := ⟨o, 3, none⟩) ho).trans c3
                  have y4 : w5.cell? ⟨g, k, none⟩ = some (.int .i64 (O.at k)) := (HB5.out.cell (p := ⟨g, k, none⟩) hg).trans hgk
                  have hs5 : w.heap.size < w5.heap.size := HX5.out.lt
                  have ho5 : o < w5.heap.size := by omega
                  obtain ⟨g5, rfl⟩ : ∃ g5, ad5 = some ⟨g5, 0, none⟩ := by
                    rcases Joins.ownsRow_forms hrow5 with ⟨_, hz9⟩ | ⟨g9, cap9, e9⟩
                    · omega
                    · injection e9 with e9 _ _
                      exact ⟨g9, e9⟩
                  have hrow6 : w5.ownsRow (w.heap.size + 2) 78 4 (.slice (some ⟨g5, 0, none⟩) m cap5) (x :: r).length (pendCells (x :: r)) := by
                    have h9 := hrow5
                    have hsz9 : ((w.alloc (.cells #[.int .i64 k] 3)).alloc (.cells #[.int .i64 frm, .int .i64 off] 3)).heap.size = w.heap.size + 2 := by simp
                    rw [hsz9] at h9
                    rw [HM.out]; exact h9
                  obtain ⟨f0, f1, f2, f3⟩ := PendRead.own hrow6 0 x rfl
                  simp only [Nat.zero_mul, Nat.zero_add] at f0 f1 f2 f3
                  have hg5 := (hrow6.lt g5 rfl).2
                  clear hrow5 hb5 hrow6
                  go_wp2_with fail
                  go_quiet (fail)
                  go_wp2_with fail
                  go_ret
                  exact WritePost.same HO.out (bel_next HB5.out (bel_drewN _ _ _)) HF.out
              · have b3 : (x.epoch == epoch) = false := by simpa using hx2
                have b4 : decide (x.epoch = epoch) = false := decide_eq_false hx2
                rw [if_neg (fun h9 => hx2 h9.1)] at hdef
                have HF := hid hdef
                clear hdef hx1 hx2 hp hpt hin hm
                go_enter Tryz.func30, Tryz.ntmps30
                go_wp2_with fail
                refine (producer_is pid epoch true _ hd1).mono ?_
                rintro e w2 ⟨rfl, rfl⟩
                go_wp2_with fail
                refine (part_is (ad := some ⟨g, 0, none⟩) (cap := cap) (n := O.com.length) k true (by go_simp) hd2).mono ?_
                rintro e w2 ⟨rfl, rfl⟩
                go_wp2_with fail
                refine (within2 _ _ frm off true _ hd3 (by go_simp) (by go_simp)).mono ?_
                rintro e w2 ⟨rfl, rfl⟩
                go_wp2_with fail
                refine (broken_is (HO.out.below (bel_alloc HB0.out _)) 0 he2).mono ?_
                rintro e w3 ⟨rfl, rfl⟩
                go_wp2_with fail
                refine (HOF.out _ (bel_alloc HB0.out _) (HBX.out.alloc _)).mono ?_
                rintro e w5 ⟨v5, rfl, hrow5, hb5⟩
                obtain ⟨ad5, cap5, rfl⟩ := row_slice hrow5
                have HB5 : Hid (Below w.heap.size w w5) := hid (bel_next (bel_alloc HB0.out _) hb5)
                have HX5 : Hid (Blk w5 w.heap.size #[.int .i64 k] 3) := hid ((HBX.out.alloc _).below' hb5)
                have y0 : w5.cell? ⟨w.heap.size, 0, none⟩ = some (.int .i64 k) := HX5.out.cell rfl
                have y1 : w5.cell? ⟨o, 0, none⟩ = some (.pointer (some ⟨l, 0, none⟩)) := (HB5.out.cell (p := ⟨o, 0, none⟩) ho).trans c0
                have y3 : w5.cell? ⟨o, 3, none⟩ = some (.slice (some ⟨g, 0, none⟩) O.com.length cap) := (HB5.out.cell (p := ⟨o, 3, none⟩) ho).trans c3
                have y4 : w5.cell? ⟨g, k, none⟩ = some (.int .i64 (O.at k)) := (HB5.out.cell (p := ⟨g, k, none⟩) hg).trans hgk
                have hs5 : w.heap.size < w5.heap.size := HX5.out.lt
                have ho5 : o < w5.heap.size := by omega
                obtain ⟨g5, rfl⟩ : ∃ g5, ad5 = some ⟨g5, 0, none⟩ := by
                  rcases Joins.ownsRow_forms hrow5 with ⟨_, hz9⟩ | ⟨g9, cap9, e9⟩
                  · omega
                  · injection e9 with e9 _ _
                    exact ⟨g9, e9⟩
                have hrow6 : w5.ownsRow (w.heap.size + 2) 78 4 (.slice (some ⟨g5, 0, none⟩) m cap5) (x :: r).length (pendCells (x :: r)) := by
                  have h9 := hrow5
                  have hsz9 : ((w.alloc (.cells #[.int .i64 k] 3)).alloc (.cells #[.int .i64 frm, .int .i64 off] 3)).heap.size = w.heap.size + 2 := by simp
                  rw [hsz9] at h9
                  rw [HM.out]; exact h9
                obtain ⟨f0, f1, f2, f3⟩ := PendRead.own hrow6 0 x rfl
                simp only [Nat.zero_mul, Nat.zero_add] at f0 f1 f2 f3
                have hg5 := (hrow6.lt g5 rfl).2
                clear hrow5 hb5 hrow6
                go_wp2_with fail
                go_quiet (fail)
                go_wp2_with fail
                go_ret
                exact WritePost.same HO.out (bel_next HB5.out (bel_drewN _ _ _)) HF.out
            · have b1 : (x.pid != pid) = true := by simpa using hx1
              have b2 : decide (x.pid = pid) = false := decide_eq_false hx1
              rw [if_pos hx1] at hdef
              have HF := hid hdef
              clear hdef hx1 hp hpt hin hm
              go_enter Tryz.func30, Tryz.ntmps30
              go_wp2_with fail
              refine (producer_is pid epoch true _ hd1).mono ?_
              rintro e w2 ⟨rfl, rfl⟩
              go_wp2_with fail
              refine (part_is (ad := some ⟨g, 0, none⟩) (cap := cap) (n := O.com.length) k true (by go_simp) hd2).mono ?_
              rintro e w2 ⟨rfl, rfl⟩
              go_wp2_with fail
              refine (within2 _ _ frm off true _ hd3 (by go_simp) (by go_simp)).mono ?_
              rintro e w2 ⟨rfl, rfl⟩
              go_wp2_with fail
              refine (broken_is (HO.out.below (bel_alloc HB0.out _)) 0 he2).mono ?_
              rintro e w3 ⟨rfl, rfl⟩
              go_wp2_with fail
              refine (HOF.out _ (bel_alloc HB0.out _) (HBX.out.alloc _)).mono ?_
              rintro e w5 ⟨v5, rfl, hrow5, hb5⟩
              obtain ⟨ad5, cap5, rfl⟩ := row_slice hrow5
              have HB5 : Hid (Below w.heap.size w w5) := hid (bel_next (bel_alloc HB0.out _) hb5)
              have HX5 : Hid (Blk w5 w.heap.size #[.int .i64 k] 3) := hid ((HBX.out.alloc _).below' hb5)
              have y0 : w5.cell? ⟨w.heap.size, 0, none⟩ = some (.int .i64 k) := HX5.out.cell rfl
              have y1 : w5.cell? ⟨o, 0, none⟩ = some (.pointer (some ⟨l, 0, none⟩)) := (HB5.out.cell (p := ⟨o, 0, none⟩) ho).trans c0
              have y3 : w5.cell? ⟨o, 3, none⟩ = some (.slice (some ⟨g, 0, none⟩) O.com.length cap) := (HB5.out.cell (p := ⟨o, 3, none⟩) ho).trans c3
              have y4 : w5.cell? ⟨g, k, none⟩ = some (.int .i64 (O.at k)) := (HB5.out.cell (p := ⟨g, k, none⟩) hg).trans hgk
              have hs5 : w.heap.size < w5.heap.size := HX5.out.lt
              have ho5 : o < w5.heap.size := by omega
              obtain ⟨g5, rfl⟩ : ∃ g5, ad5 = some ⟨g5, 0, none⟩ := by
                rcases Joins.ownsRow_forms hrow5 with ⟨_, hz9⟩ | ⟨g9, cap9, e9⟩
                · omega
                · injection e9 with e9 _ _
                  exact ⟨g9, e9⟩
              have hrow6 : w5.ownsRow (w.heap.size + 2) 78 4 (.slice (some ⟨g5, 0, none⟩) m cap5) (x :: r).length (pendCells (x :: r)) := by
                have h9 := hrow5
                have hsz9 : ((w.alloc (.cells #[.int .i64 k] 3)).alloc (.cells #[.int .i64 frm, .int .i64 off] 3)).heap.size = w.heap.size + 2 := by simp
                rw [hsz9] at h9
                rw [HM.out]; exact h9
              obtain ⟨f0, f1, f2, f3⟩ := PendRead.own hrow6 0 x rfl
              simp only [Nat.zero_mul, Nat.zero_add] at f0 f1 f2 f3
              have hg5 := (hrow6.lt g5 rfl).2
              clear hrow5 hb5 hrow6
              go_wp2_with fail
              go_ret
              exact WritePost.same HO.out HB5.out HF.out
        · have he2 : ¬ A.toP.e = 0 := he
          obtain ⟨c, hc⟩ : ∃ c, A.toP.e = c := ⟨_, rfl⟩
          have HF : Hid (rr = (O, A.toP, D, c)) := hid (by rw [← HR.out, ← hc]; unfold POff.pendOne; rw [if_neg (fun h9 => h9 ⟨hp, hpt, hin.1, hin.2⟩), if_pos he2])
          have HC := hid hc
          rw [hc] at he2
          have z1 : (c != 0) = true := by simpa using he2
          have z2 : decide (c = 0) = false := decide_eq_false he2
          clear HR he hin hc he2 hno hp hpt
          go_enter Tryz.func30, Tryz.ntmps30
          go_wp2_with fail
          refine (producer_is pid epoch true _ hd1).mono ?_
          rintro e w2 ⟨rfl, rfl⟩
          go_wp2_with fail
          refine (part_is (ad := some ⟨g, 0, none⟩) (cap := cap) (n := O.com.length) k true (by go_simp) hd2).mono ?_
          rintro e w2 ⟨rfl, rfl⟩
          go_wp2_with fail
          refine (within2 _ _ frm off true _ hd3 (by go_simp) (by go_simp)).mono ?_
          rintro e w2 ⟨rfl, rfl⟩
          go_wp2_with fail
          refine (broken_is (HO.out.below (bel_alloc HB0.out _)) c HC.out).mono ?_
          rintro e w3 ⟨rfl, rfl⟩
          go_wp2_with fail
          go_ret
          exact WritePost.same HO.out (bel_alloc HB0.out _) HF.out
      · have hd3 := decide_eq_false hin
        have HF := hid (hno (fun h9 => hin h9.2.2))
        clear HR hno hp hpt hin
        go_enter Tryz.func30, Tryz.ntmps30
        go_wp2_with fail
        refine (producer_is pid epoch true _ hd1).mono ?_
        rintro e w2 ⟨rfl, rfl⟩
        go_wp2_with fail
        refine (part_is (ad := some ⟨g, 0, none⟩) (cap := cap) (n := O.com.length) k true (by go_simp) hd2).mono ?_
        rintro e w2 ⟨rfl, rfl⟩
        go_wp2_with fail
        refine (within2 _ _ frm off false _ hd3 (by go_simp) (by go_simp)).mono ?_
        rintro e w2 ⟨rfl, rfl⟩
        go_wp2_with fail
        go_ret
        exact WritePost.same HO.out (bel_alloc HB0.out _) HF.out
    · have hd2 : decide ((0 : Int) ≤ part ∧ part < (O.com.length : Int)) = false := decide_eq_false hpt
      have HF := hid (hno (fun h9 => hpt h9.2.1))
      clear HR hno hp hpt
      go_enter Tryz.func30, Tryz.ntmps30
      go_wp2_with fail
      refine (producer_is pid epoch true _ hd1).mono ?_
      rintro e w2 ⟨rfl, rfl⟩
      go_wp2_with fail
      refine (part_is (ad := ad) (cap := cap) (n := O.com.length) part false (by go_simp) hd2).mono ?_
      rintro e w2 ⟨rfl, rfl⟩
      go_wp2_with fail
      go_ret
      exact WritePost.same HO.out HB0.out HF.out
  · have hd1 := decide_eq_false hp
    have HF := hid (hno (fun h9 => hp h9.1))
    clear HR hno hp
    go_enter Tryz.func30, Tryz.ntmps30
    go_wp2_with fail
    refine (producer_is pid epoch false _ hd1).mono ?_
    rintro e w2 ⟨rfl, rfl⟩
    go_wp2_with fail
    go_ret
    exact WritePost.same HO.out HB0.out HF.out
end Go.Proofs.YtjodkcjlipecdaaGreatDoor
