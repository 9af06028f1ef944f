/-
  coord: how a coordinator lies in memory; ready, row, decided, Rows: the walks. No conditions.
  coord: write: the walk. Conditions: a coordinator whose log is well.
-/
import Derived.Test.YtbnefpdjcbegpaaGreatDoorHNM
import Derived.Test.YtbnefpdjcbegpaaGreatDoorHFM
import Derived.Test.YtbnefpdjcbegpaaGreatDoorHLM
import Derived.Test.YtbnefpdjcbegpaaGreatDoorHJM
set_option maxRecDepth 100000
namespace Go.Proofs.YtbnefpdjcbegpaaGreatDoor
open Go.RowKit

def coCells (l : Nat) (rv : Value) (C : PCo) : List Value := [.pointer (some ⟨l, 0, none⟩), rv] ++ C.due.map (Value.int .i64) ++ [.int .i64 C.now]

structure CoRep (w : World) (c l : Nat) (rv : Value) (C : PCo) : Prop where
  hdr : Blk w c (coCells l rv C).toArray 66
  rows : w.ownsRow 0 28 5 rv C.rows.length (trCells C.rows)
  due : C.due.length = 9

def CoAt (c l : Nat) (w : World) (S : Nat → Prop) (C : PCo) : Prop := ∃ rv, CoRep w c l rv C ∧ ∀ k, S k ↔ (k = c ∨ rv.ownBlock = some k)

theorem row_blk9 {w : World} {base : Nat} {e : TypeId} {size : Nat} {v : Value} {n : Nat} {xs : List Value} (h : w.ownsRow base e size v n xs) {k : Nat} (hk : v.ownBlock = some k) : ∃ c, Blk w k c e := by
  rcases h.2 with ⟨rfl, _⟩ | ⟨g, cap, cur, rfl, _, hh, _⟩
  · cases hk
  · simp only [Value.ownBlock, Option.some.injEq] at hk
    subst hk
    exact ⟨cur, hh⟩

/-- A coordinator, as a thing in memory. -/
def coThing (c l : Nat) : Thing PCo where
  held := CoAt c l
  types := [66, 28]
  fr := by
    rintro w w' S S0 C ⟨rv, h, hS⟩ hf hn
    exact ⟨rv, ⟨h.hdr.fr hf (hn c ((hS c).2 (.inl rfl))), row_fr h.rows hf (fun k hk => hn k ((hS k).2 (.inr hk))), h.due⟩, hS⟩
  kind := by
    rintro w S C k ⟨rv, h, hS⟩ hk
    rcases (hS k).1 hk with rfl | h1
    · exact ⟨_, _, h.hdr, by simp⟩
    · obtain ⟨cs, hc⟩ := row_blk9 h.rows h1
      exact ⟨cs, _, hc, by simp⟩
  apart := by decide

theorem CoRep.c0 {w : World} {c l : Nat} {rv : Value} {C : PCo} (h : CoRep w c l rv C) : w.cell? ⟨c, 0, none⟩ = some (.pointer (some ⟨l, 0, none⟩)) ∧ w.cell? ⟨c, 1, none⟩ = some rv := ⟨h.hdr.cell rfl, h.hdr.cell rfl⟩

theorem CoRep.due_at {w : World} {c l : Nat} {rv : Value} {C : PCo} (h : CoRep w c l rv C) {j : Nat} (hj : j < 9) : w.cell? ⟨c, 2 + j, none⟩ = some (.int .i64 (C.due.getD j 0)) := by
  have hd := h.due
  refine h.hdr.cell ?_
  unfold coCells
  rw [List.getElem?_toArray, List.append_assoc, List.getElem?_append_right (by simp), List.getElem?_append_left (by simp; omega), List.getElem?_map]
  simp only [List.length_cons, List.length_nil]
  rw [show 2 + j - (0 + 1 + 1) = j by omega, List.getElem?_eq_getElem (by omega), List.getD_eq_getElem?_getD, List.getElem?_eq_getElem (by omega)]
  rfl

theorem CoRep.now_at {w : World} {c l : Nat} {rv : Value} {C : PCo} (h : CoRep w c l rv C) : w.cell? ⟨c, 11, none⟩ = some (.int .i64 C.now) := by
  have hd := h.due
  refine h.hdr.cell ?_
  unfold coCells
  rw [List.getElem?_toArray, List.getElem?_append_right (by simp; omega)]
  simp [hd]

section
variable {w : World} {c l d : Nat} {S SL SD : Nat → Prop} {C : PCo} {L : PLog} {D : PDisk}

set_option maxHeartbeats 1000000 in
theorem coReady_any (pid : Int) (h : Trio (coThing c l) w l d S SL SD C L D) :
    Calls Tryz.prog 33 #[.pointer (some ⟨c, 0, none⟩), .int .i64 pid] w fun e w' => e = .returned (.int .i64 (coReady L pid)) ∧ w = w' := by
  obtain ⟨rv, hrep, _⟩ := h.obj
  obtain ⟨c0, _⟩ := hrep.c0
  have HL := hid (broken_any h.log)
  unfold ptr at HL
  clear hrep h
  unfold coReady
  by_cases h1 : pid < 1
  · have hd : decide (pid < 1) = true := decide_eq_true h1
    rw [if_pos (.inl h1)]
    go_enter Tryz.func33, Tryz.ntmps33
    go_wp2_with fail
    go_ret
    exact ⟨rfl, rfl⟩
  · have hd : decide (pid < 1) = false := decide_eq_false h1
    by_cases h2 : 8 < pid
    · have hd2 : decide (8 < pid) = true := decide_eq_true h2
      rw [if_pos (.inr h2)]
      go_enter Tryz.func33, Tryz.ntmps33
      go_wp2_with fail
      go_ret
      exact ⟨rfl, rfl⟩
    · have hd2 : decide (8 < pid) = false := decide_eq_false h2
      rw [if_neg (by omega)]
      go_enter Tryz.func33, Tryz.ntmps33
      go_wp2_with fail
      refine HL.out.mono ?_
      rintro e w1 ⟨rfl, rfl⟩
      go_wp2_with fail
      go_ret
      exact ⟨rfl, rfl⟩

set_option maxHeartbeats 1000000 in
theorem coDecided_any (t : PTr) (w : World) : Calls Tryz.prog 35 #[t.val] w fun e w' => e = .returned (.bool (decide (t.state = 3 ∨ t.state = 4))) ∧ Below w.heap.size w w' := by
  have HB := hid (bel_alloc (Below.refl w.heap.size w) (.cells #[.int .i64 t.pid, .int .i64 t.epoch, .int .i64 t.state, .int .i64 t.parts, .int .i64 t.last] 28))
  unfold PTr.val
  obtain ⟨b, hb⟩ : ∃ b, decide (t.state = 3 ∨ t.state = 4) = b := ⟨_, rfl⟩
  rw [hb]
  have HH := hid hb
  clear hb
  generalize t.state = s at HB HH ⊢
  by_cases h3 : s = 3
  · have h9 := HH.out
    rw [decide_eq_true (.inl h3)] at h9
    subst h9 h3
    go_enter Tryz.func35, Tryz.ntmps35
    go_wp2_with fail
    go_ret
    exact ⟨rfl, HB.out⟩
  · by_cases h4 : s = 4
    · have h9 := HH.out
      rw [decide_eq_true (.inr h4)] at h9
      subst h9 h4
      go_enter Tryz.func35, Tryz.ntmps35
      go_wp2_with fail
      go_ret
      exact ⟨rfl, HB.out⟩
    · have h9 := HH.out
      rw [decide_eq_false (by omega)] at h9
      subst h9
      have hd3 : decide (s = 3) = false := decide_eq_false h3
      have hd4 : decide (s = 4) = false := decide_eq_false h4
      have hb3 : (s == 3) = false := by simpa using h3
      have hb4 : (s == 4) = false := by simpa using h4
      go_enter Tryz.func35, Tryz.ntmps35
      go_wp2_with fail
      go_ret
      exact ⟨rfl, HB.out⟩

def CoRowPost (w : World) (s : List PTr) (pid epoch : Int) (e : Ending) (w' : World) : Prop :=
  e = .returned (.tuple #[(rowZ s pid).val, .int .i64 (rowE s pid epoch)]) ∧ Below w.heap.size w w'

set_option maxHeartbeats 1000000 in
theorem crow_ret {w w1 : World} {p : Nat} {x : PTr} {e pid epoch : Int} {s : List PTr} {tm : Array Value} (hp : tm[6]? = some (.pointer (some ⟨p, 0, none⟩))) (hc : tm[7]? = some (.int .i64 e)) (hb : Blk w1 p #[.int .i64 x.pid, .int .i64 x.epoch, .int .i64 x.state, .int .i64 x.parts, .int .i64 x.last] 28) (hB : Below w.heap.size w w1) (hz : rowZ s pid = x) (he : rowE s pid epoch = e) :
    bodyPost Tryz.prog Tryz.f34 (CoRowPost w s pid epoch) .ret { tmps := tm, defers := [] } w1 := by
  have c0 := hb.cell (i := 0) (v := .int .i64 x.pid) rfl
  have c1 := hb.cell (i := 1) (v := .int .i64 x.epoch) rfl
  have c2 := hb.cell (i := 2) (v := .int .i64 x.state) rfl
  have c3 := hb.cell (i := 3) (v := .int .i64 x.parts) rfl
  have c4 := hb.cell (i := 4) (v := .int .i64 x.last) rfl
  refine bodyPost_ret (v := .tuple #[x.val, .int .i64 e]) (by simp [results, Tryz.results34, go_sem, hp, hc, c0, c1, c2, c3, c4, PTr.val]) rfl ⟨by rw [hz, he], hB⟩

set_option maxHeartbeats 2000000 in
theorem coRow_any (pid epoch : Int) (h : Trio (coThing c l) w l d S SL SD C L D) (hr : TRight C.rows) :
    Calls Tryz.prog 34 #[.pointer (some ⟨c, 0, none⟩), .int .i64 pid, .int .i64 epoch] w (CoRowPost w C.rows pid epoch) := by
  have hl8 := hr.len
  obtain ⟨rv, hrep, _⟩ := h.obj
  obtain ⟨c0, c1⟩ := hrep.c0
  have hc := hrep.hdr.lt
  have HREP := hid hrep
  clear hrep h hr
  have hba : Below w.heap.size w (w.alloc (.cells #[.int .i64 0, .int .i64 0, .int .i64 0, .int .i64 0, .int .i64 0] 28)) := bel_alloc (Below.refl w.heap.size w) _
  have HBA := hid hba
  have HBK := hid (Blk.new w #[.int .i64 0, .int .i64 0, .int .i64 0, .int .i64 0, .int .i64 0] 28)
  have hne : c ≠ w.heap.size := by omega
  clear hba
  obtain ⟨x, hx⟩ : ∃ x, rowZ C.rows pid = x := ⟨_, rfl⟩
  obtain ⟨cc, hcc⟩ : ∃ cc, rowC C.rows pid = cc := ⟨_, rfl⟩
  have hE : rowE C.rows pid epoch = if cc = 0 ∧ x.epoch ≠ epoch then 8 else cc := by
    unfold rowE
    unfold rowZ at hx
    unfold rowC at hcc
    cases hro : rowOf C.rows pid with
    | none => rw [hro] at hcc; dsimp only at hcc; subst hcc; rw [if_neg (fun h => absurd h.1 (by decide))]
    | some t =>
      rw [hro] at hcc hx
      dsimp only at hcc hx ⊢
      simp only [Option.getD_some] at hx
      subst hcc hx
      by_cases h9 : t.epoch = epoch
      · rw [if_neg (fun h => h h9), if_neg (fun h => h.2 h9)]
      · rw [if_pos h9, if_pos ⟨rfl, h9⟩]
  have hcv : cc = 0 ∨ cc = 3 := by
    rw [← hcc]; unfold rowC
    split
    · exact .inr rfl
    · exact .inl rfl
  have HX := hid hx
  have HCC := hid hcc
  have HE := hid hE
  clear hx hcc hE
  go_enter Tryz.func34, Tryz.ntmps34
  go_wp2_with fail
  refine (txRow pid (Reads.of_own (own_bel HREP.out.rows HBA.out)) (by omega)).mono ?_
  rintro e w1 ⟨rfl, hb1⟩
  rw [HX.out, HCC.out]
  have HB1 := hid (bel_next HBA.out hb1)
  have hbk1 := HBK.out.below' hb1
  have hsz1 := hbk1.lt
  have hne1 : w.heap.size ≠ w1.heap.size := by omega
  have f0 := hbk1.free 0
  have f1 := hbk1.free 1
  have f2 := hbk1.free 2
  have f3 := hbk1.free 3
  have f4 := hbk1.free 4
  have b0 := hbk1.cell (i := 0) (v := .int .i64 0) rfl
  have b1 := hbk1.cell (i := 1) (v := .int .i64 0) rfl
  have b2 := hbk1.cell (i := 2) (v := .int .i64 0) rfl
  have b3 := hbk1.cell (i := 3) (v := .int .i64 0) rfl
  have b4 := hbk1.cell (i := 4) (v := .int .i64 0) rfl
  have HBK1 := hid hbk1
  clear hb1 hbk1 HBA HBK
  unfold PTr.val
  have hfin : ∀ e9 (tm : Array Value), rowE C.rows pid epoch = e9 → tm[6]? = some (.pointer (some ⟨w.heap.size, 0, none⟩)) → tm[7]? = some (.int .i64 e9) →
      bodyPost Tryz.prog Tryz.f34 (CoRowPost w C.rows pid epoch) .ret { tmps := tm, defers := [] } ((((((w1.setCell ⟨w.heap.size, 0, none⟩ (.int .i64 x.pid)).setCell ⟨w.heap.size, 1, none⟩ (.int .i64 x.epoch)).setCell ⟨w.heap.size, 2, none⟩ (.int .i64 x.state)).setCell ⟨w.heap.size, 3, none⟩ (.int .i64 x.parts)).setCell ⟨w.heap.size, 4, none⟩ (.int .i64 x.last)).alloc (.cells #[.int .i64 x.pid, .int .i64 x.epoch, .int .i64 x.state, .int .i64 x.parts, .int .i64 x.last] 28)) := by
    intro e9 tm h1 h2 h3
    refine crow_ret h2 h3 (x := x) ?_ ?_ HX.out h1
    · simpa using (((((HBK1.out.set 0 (.int .i64 x.pid)).set 1 (.int .i64 x.epoch)).set 2 (.int .i64 x.state)).set 3 (.int .i64 x.parts)).set 4 (.int .i64 x.last)).alloc (.cells #[.int .i64 x.pid, .int .i64 x.epoch, .int .i64 x.state, .int .i64 x.parts, .int .i64 x.last] 28)
    · exact bel_alloc (((((HB1.out.setCell (by simp) _).setCell (by simp) _).setCell (by simp) _).setCell (by simp) _).setCell (by simp) _) _
  have HFIN := hid hfin
  clear hfin
  rcases hcv with rfl | rfl
  · by_cases he : x.epoch = epoch
    · have h9 := HE.out
      rw [if_neg (fun h => h.2 he)] at h9
      have HE2 := hid h9
      have hd : (x.epoch != epoch) = false := by simpa using he
      clear h9
      subst he
      go_wp2_with fail
      exact HFIN.out 0 _ HE2.out rfl rfl
    · have h9 := HE.out
      rw [if_pos ⟨rfl, he⟩] at h9
      have HE2 := hid h9
      have hd : decide (x.epoch = epoch) = false := decide_eq_false he
      have hd2 : (x.epoch != epoch) = true := by simpa using he
      clear h9
      go_wp2_with fail
      exact HFIN.out 8 _ HE2.out rfl rfl
  · have h9 := HE.out
    rw [if_neg (fun h => absurd h.1 (by decide))] at h9
    have HE2 := hid h9
    clear h9
    go_wp2_with fail
    exact HFIN.out 3 _ HE2.out rfl rfl
end
end Go.Proofs.YtbnefpdjcbegpaaGreatDoor

namespace Go.Proofs.YtbnefpdjcbegpaaGreatDoor
open Go.RowKit

section
variable {ω : Type} {X : Thing ω}

/-- What a call leaves, with what is none of theirs. -/
theorem TrioTo.split {w w2 : World} {l d : Nat} {S SL SD : Nat → Prop} {O2 : ω} {L2 : PLog} {D2 : PDisk} (hto : TrioTo X w w2 l d S SL SD O2 L2 D2) :
    ∃ S2 SL2 SD2, (Trio X w2 l d S2 SL2 SD2 O2 L2 D2 ∧ Fr (fun k => S k ∨ SL k ∨ SD k) w w2 ∧ (∀ k, S2 k → S k ∨ w.heap.size ≤ k) ∧ (∀ k, SL2 k → SL k ∨ w.heap.size ≤ k) ∧ (∀ k, SD2 k → SD k ∨ w.heap.size ≤ k)) ∧
      ∀ g, Aloof g w S SL SD → Aloof g w2 S2 SL2 SD2 ∧ w2.heap[g]? = w.heap[g]? := by
  obtain ⟨S2, SL2, SD2, a, f, s, t, u⟩ := hto
  refine ⟨S2, SL2, SD2, ⟨a, f, s, t, u⟩, fun g ha => ⟨⟨by have := f.size; have := ha.lt; omega, fun h9 => ?_, fun h9 => ?_, fun h9 => ?_⟩, f.block g ha.lt ?_⟩⟩
  · have hlt := ha.lt
    rcases s g h9 with h9 | h9
    · exact ha.s h9
    · omega
  · have hlt := ha.lt
    rcases t g h9 with h9 | h9
    · exact ha.sl h9
    · omega
  · have hlt := ha.lt
    rcases u g h9 with h9 | h9
    · exact ha.sd h9
    · omega
  · rintro (h9 | h9 | h9)
    · exact ha.s h9
    · exact ha.sl h9
    · exact ha.sd h9
end

/-- One call behind another, with what is theirs behind them. -/
structure TStep {ω : Type} (X : Thing ω) (w w' : World) (l d : Nat) (S SL SD S' SL' SD' : Nat → Prop) (O' : ω) (L' : PLog) (D' : PDisk) : Prop where
  trio : Trio X w' l d S' SL' SD' O' L' D'
  fr : Fr (fun k => S k ∨ SL k ∨ SD k) w w'
  s : ∀ k, S' k → S k ∨ w.heap.size ≤ k
  sl : ∀ k, SL' k → SL k ∨ w.heap.size ≤ k
  sd : ∀ k, SD' k → SD k ∨ w.heap.size ≤ k

section
variable {ω : Type} {X : Thing ω} {w w1 w2 : World} {l d : Nat} {S SL SD S1 SL1 SD1 S2 SL2 SD2 : Nat → Prop} {O1 O2 : ω} {L1 L2 : PLog} {D1 D2 : PDisk}

theorem TStep.of (h : Trio X w1 l d S1 SL1 SD1 O1 L1 D1 ∧ Fr (fun k => S k ∨ SL k ∨ SD k) w w1 ∧ (∀ k, S1 k → S k ∨ w.heap.size ≤ k) ∧ (∀ k, SL1 k → SL k ∨ w.heap.size ≤ k) ∧ (∀ k, SD1 k → SD k ∨ w.heap.size ≤ k)) : TStep X w w1 l d S SL SD S1 SL1 SD1 O1 L1 D1 := ⟨h.1, h.2.1, h.2.2.1, h.2.2.2.1, h.2.2.2.2⟩
theorem TStep.to (h : TStep X w w1 l d S SL SD S1 SL1 SD1 O1 L1 D1) : TrioTo X w w1 l d S SL SD O1 L1 D1 := ⟨S1, SL1, SD1, h.trio, h.fr, h.s, h.sl, h.sd⟩

theorem TStep.next (h : TStep X w w1 l d S SL SD S1 SL1 SD1 O1 L1 D1) (h2 : TStep X w1 w2 l d S1 SL1 SD1 S2 SL2 SD2 O2 L2 D2) : TStep X w w2 l d S SL SD S2 SL2 SD2 O2 L2 D2 := by
  have hsz := h.fr.size
  refine ⟨h2.trio, ⟨h2.fr.os.trans h.fr.os, h2.fr.tape.trans h.fr.tape, h2.fr.output.trans h.fr.output, Nat.le_trans h.fr.size h2.fr.size, fun k hk hn => ?_⟩, fun k hk => ?_, fun k hk => ?_, fun k hk => ?_⟩
  · refine (h2.fr.block k (by omega) (fun h9 => ?_)).trans (h.fr.block k hk hn)
    rcases h9 with h9 | h9 | h9
    · exact (h.s k h9).elim (fun h => hn (.inl h)) (by omega)
    · exact (h.sl k h9).elim (fun h => hn (.inr (.inl h))) (by omega)
    · exact (h.sd k h9).elim (fun h => hn (.inr (.inr h))) (by omega)
  · rcases h2.s k hk with h9 | h9
    · exact h.s k h9
    · exact .inr (by omega)
  · rcases h2.sl k hk with h9 | h9
    · exact h.sl k h9
    · exact .inr (by omega)
  · rcases h2.sd k hk with h9 | h9
    · exact h.sd k h9
    · exact .inr (by omega)

theorem TStep.after (hb : Below w.heap.size w w1) (h : TStep X w1 w2 l d S SL SD S2 SL2 SD2 O2 L2 D2) : TStep X w w2 l d S SL SD S2 SL2 SD2 O2 L2 D2 := by
  have hsz := hb.size
  exact ⟨h.trio, (Fr.of_below hb).trans h.fr, fun k hk => (h.s k hk).imp id (by omega), fun k hk => (h.sl k hk).imp id (by omega), fun k hk => (h.sd k hk).imp id (by omega)⟩

/-- The thing turns, and takes blocks that were made since. -/
theorem TStep.obj (h : TStep X w w1 l d S SL SD S1 SL1 SD1 O1 L1 D1) {S3 : Nat → Prop} {O3 : ω} (ho : X.held w2 S3 O3) (hf : Fr S1 w1 w2) (hs : ∀ k, S3 k → S1 k ∨ w.heap.size ≤ k) : TrioTo X w w2 l d S SL SD O3 L1 D1 := by
  have hsz := h.fr.size
  refine ⟨S3, SL1, SD1, ⟨ho, h.trio.log.fr hf (fun k hk h9 => Thing.notLog h.trio.obj h.trio.log h9 hk), h.trio.disk.fr hf (fun k hk h9 => Thing.notDisk h.trio.obj h.trio.disk h9 hk)⟩, ⟨hf.os.trans h.fr.os, hf.tape.trans h.fr.tape, hf.output.trans h.fr.output, Nat.le_trans h.fr.size hf.size, fun k hk hn => ?_⟩, fun k hk => ?_, h.sl, h.sd⟩
  · refine (hf.block k (by omega) (fun h9 => ?_)).trans (h.fr.block k hk hn)
    exact (h.s k h9).elim (fun h => hn (.inl h)) (by omega)
  · rcases hs k hk with h9 | h9
    · exact h.s k h9
    · exact .inr h9
end

theorem row_heap {w w2 : World} {base : Nat} {e : TypeId} {size : Nat} {v : Value} {n : Nat} {xs : List Value} (hr : w.ownsRow base e size v n xs) (hk : ∀ k, v.ownBlock = some k → w2.heap[k]? = w.heap[k]?) : w2.ownsRow base e size v n xs := by
  refine ⟨hr.1, ?_⟩
  rcases hr.2 with h2 | ⟨g, c, cur, rfl, hg, hh, r⟩
  · exact .inl h2
  · exact .inr ⟨g, c, cur, rfl, hg, (hk g rfl).trans hh, r⟩

theorem FoldT.one {w w' : World} {r : List PTr × Int} {e : Ending} (h : FoldT w r e w') : ∃ v', e = .returned (.tuple #[v', .int .i64 r.2]) ∧ Below w.heap.size w w' ∧ (r.2 = 0 → w'.ownsRow w.heap.size 28 5 v' r.1.length (trCells r.1)) := by
  obtain ⟨hb, ⟨h1, rfl⟩ | ⟨h1, v', rfl, ho⟩⟩ := h
  · exact ⟨_, rfl, hb, fun h => absurd h h1⟩
  · exact ⟨v', by rw [h1], hb, fun _ => ho⟩

def CoPost (c l : Nat) (w : World) (d : Nat) (S SL SD : Nat → Prop) (C' : PCo) (L' : PLog) (D' : PDisk) (e' e : Ending) (w' : World) : Prop :=
  e = e' ∧ TrioTo (coThing c l) w w' l d S SL SD C' L' D'

theorem items9 (w : World) (a b : Value) (T : TypeId) : Reads (w.alloc (.cells #[a, b] T)) (.slice (some ⟨w.heap.size, 0, none⟩) 1 1) 1 2 [a, b] := by
  refine ⟨rfl, _, _, rfl, fun j u hj => ⟨_, rfl, ?_⟩⟩
  have h := (Blk.new w #[a, b] T).cell (i := j) (v := u) (by simpa using hj)
  exact h

theorem CoAt.c0 {w : World} {c l : Nat} {S : Nat → Prop} {C : PCo} (h : (coThing c l).held w S C) : w.cell? ⟨c, 0, none⟩ = some (.pointer (some ⟨l, 0, none⟩)) := by
  obtain ⟨rv, hrep, _⟩ := h
  exact hrep.c0.1

/-- The rows are set. -/
theorem CoAt.rows_to {w : World} {c l : Nat} {S : Nat → Prop} {C : PCo} {v : Value} {l1 : List PTr} (h : (coThing c l).held w S C) {B : Nat} (hrow : w.ownsRow B 28 5 v l1.length (trCells l1)) :
    ∃ S', (coThing c l).held (w.setCell ⟨c, 1, none⟩ v) S' { C with rows := l1 } ∧ Fr S w (w.setCell ⟨c, 1, none⟩ v) ∧ ∀ k, S' k → S k ∨ v.ownBlock = some k := by
  obtain ⟨rv, hrep, hS⟩ := h
  have hne : ∀ k, v.ownBlock = some k → ¬ k = c := by
    rintro k hk rfl
    obtain ⟨cs, hc⟩ := row_blk9 hrow hk
    have := (hc.inj hrep.hdr).2
    exact absurd this (by decide)
  have hf : Fr (fun k => k = c) w (w.setCell ⟨c, 1, none⟩ v) := (Fr.refl (fun k => k = c) w).setCell (p := ⟨c, 1, none⟩) (.inl rfl) _
  refine ⟨fun k => k = c ∨ v.ownBlock = some k, ⟨v, ⟨?_, row_fr (own_base hrow (Nat.zero_le _)) hf hne, hrep.due⟩, fun k => Iff.rfl⟩, hf.mono (fun k _ hk => (hS k).2 (.inl hk)), fun k hk => ?_⟩
  · have h9 := hrep.hdr.set 1 v
    have e : (coCells l rv C).toArray.setIfInBounds 1 v = (coCells l v { C with rows := l1 }).toArray := by
      unfold coCells; simp
    rw [e] at h9
    exact h9
  · rcases hk with rfl | hk
    · exact .inl ((hS k).2 (.inl rfl))
    · exact .inr hk

set_option maxHeartbeats 8000000 in
theorem coWrite_any {w : World} {c l d : Nat} {S SL SD : Nat → Prop} {C : PCo} {A : ALog} {D : PDisk} {N : Int} (n : TNote) (h : Trio (coThing c l) w l d S SL SD C A.toP D) (hg : NGood coNotes N C.rows A D) :
    Calls Tryz.prog 36 #[.pointer (some ⟨c, 0, none⟩), n.val] w
      (CoPost c l w d S SL SD { C with rows := (coWrite C.rows A.toP D n).1 } (coWrite C.rows A.toP D n).2.1 (coWrite C.rows A.toP D n).2.2.1 (.returned (.int .i64 (coWrite C.rows A.toP D n).2.2.2))) := by
  have hwl := hg.inv.wf hg.wf
  have htr := coRight hg.rep
  -- what the log's Append comes to
  have hout := hg.inv.append_out hg.wf hg.e [⟨1, n.text⟩]
  have hwf1 : (A.toP.append D [⟨1, n.text⟩]).2.1.WF N := PLog.append_disk hg.wf _
  have hwl1 : (A.toP.append D [⟨1, n.text⟩]).2.2.2 = 0 → (A.toP.append D [⟨1, n.text⟩]).1.WF := by
    rw [toP_append] at hwf1 ⊢
    generalize A.append D [⟨1, n.text⟩] = r at hout hwf1 ⊢
    cases hout with
    | ok A' D' inv => exact fun _ => inv.wf hwf1
    | full A' D' inv => exact fun h9 => absurd h9 (show ¬ ((5 : Int) = 0) by decide)
    | bad c why => exact fun _ => hwl
    | dark A' A2 D' => exact fun h9 => absurd h9 (show ¬ ((4 : Int) = 0) by decide)
  clear hout
  obtain ⟨rr, hrr⟩ : ∃ rr, coWrite C.rows A.toP D n = rr := ⟨_, rfl⟩
  rw [hrr]
  unfold coWrite noteTo at hrr
  obtain ⟨l1, c1, hf⟩ : ∃ l1 c1, foldT C.rows n = (l1, c1) := ⟨_, _, rfl⟩
  rw [hf] at hrr
  have hok : c1 = 0 → n.ok := fun h9 => by subst h9; exact (foldT_ok htr hf).ok
  have HOK := hid hok
  have HAPP : Hid (n.ok → ∀ W iv, Trio (coThing c l) W l d S SL SD C A.toP D → Reads W iv 1 2 [.int .i64 1, .string (bs n.text)] → Calls Tryz.prog 55 #[.pointer (some ⟨l, 0, none⟩), iv] W (AppPost W l d SL SD (A.toP.append D [⟨1, n.text⟩]))) := hid (fun hn W iv hW hiv =>
    append_all iv [⟨1, n.text⟩] hW.log hW.disk hg.wf hwl hiv (by simp) (by
      intro x hx
      simp only [List.mem_singleton] at hx
      subst hx
      have := hn.text_len
      show n.text.length ≤ _
      omega))
  obtain ⟨L1, D1, off1, err1, hA1⟩ : ∃ L1 D1 off1 err1, A.toP.append D [⟨1, n.text⟩] = (L1, D1, off1, err1) := ⟨_, _, _, _, rfl⟩
  rw [hA1] at hwf1 hwl1 HAPP hrr
  dsimp only at hwf1 hwl1 hrr
  have HRR := hid hrr
  have HT := hid h
  have HW1 := hid hwf1
  have HL1 := hid hwl1
  obtain ⟨rv, hrep, hS⟩ := h.obj
  obtain ⟨k0, k1⟩ := hrep.c0
  have hc := hrep.hdr.lt
  have HREP := hid hrep
  have hl8 := htr.len
  have hba : Below w.heap.size w (w.alloc (.cells #[.int .i64 n.kind, .int .i64 n.pid, .int .i64 n.parts] 68)) := bel_alloc (Below.refl w.heap.size w) _
  have HBA := hid hba
  have HBK := hid (Blk.new w #[.int .i64 n.kind, .int .i64 n.pid, .int .i64 n.parts] 68)
  have HFOLD : Hid (∀ W, Below w.heap.size w W → Calls Tryz.prog 47 #[rv, n.val] W fun e w' => ∃ v', e = .returned (.tuple #[v', .int .i64 c1]) ∧ Below W.heap.size W w' ∧ (c1 = 0 → w'.ownsRow W.heap.size 28 5 v' l1.length (trCells l1))) := hid (fun W hW => by
    have h9 := (txFold n htr (own_bel HREP.out.rows hW)).mono fun _ _ => FoldT.one
    rw [hf] at h9
    exact h9)
  have hne : c ≠ w.heap.size := by omega
  clear hwf1 hwl1 hrr hf hA1 hok hrep hba h hg htr hwl
  unfold TNote.val at HFOLD ⊢
  go_enter Tryz.func36, Tryz.ntmps36
  go_wp2_with fail
  refine wp_region_lex (fun w' => w'.cell? ⟨c, 1, none⟩ = some rv ∧ w'.cell? ⟨w.heap.size, 0, none⟩ = some (.int .i64 n.kind) ∧ w'.cell? ⟨w.heap.size, 1, none⟩ = some (.int .i64 n.pid) ∧ w'.cell? ⟨w.heap.size, 2, none⟩ = some (.int .i64 n.parts)) [5] (by kernel_rfl) (by kernel_rfl) (fun _ _ _ _ _ h => h) (by go_keep) (fun hHeld => ?_)
  iterate 5
    refine lex_take (v := ?_) (by kernel_rfl) (by kernel_rfl) ?_ ?_
    rotate_left
    focus
      intro w' hSw
      try dsimp only at hSw
      go_simp <;> with_reducible rfl
    simp only [Act.put, List.setIfInBounds_toArray, List.set_cons_zero, List.set_cons_succ]
  refine lex_step (by kernel_rfl) (by kernel_rfl) (fun K hK => ?_)
  go_simp
  refine (HFOLD.out _ (by exact HBA.out.drew)).mono ?_
  rintro e w1 ⟨v1, rfl, hb1, hrow1⟩
  have hs1 := hb1.size
  have HB1 : Hid (Below w.heap.size w w1) := hid (bel_next HBA.out.drew hb1)
  have HBK1 : Hid (Blk w1 w.heap.size #[.int .i64 n.kind, .int .i64 n.pid, .int .i64 n.parts] 68) := hid (HBK.out.drew.below' hb1)
  have HROW1 := hid hrow1
  have y1 : w1.cell? ⟨c, 1, none⟩ = some rv := (HB1.out.cell (p := ⟨c, 1, none⟩) hc).trans k1
  clear hb1 hrow1
  go_simp
  refine hK.out _ _ (by exact ⟨y1, HBK1.out.cell rfl, HBK1.out.cell rfl, HBK1.out.cell rfl⟩) (fun hHeld => ?_)
  clear hK K
  try simp only [Act.put, List.setIfInBounds_toArray, List.set_cons_zero, List.set_cons_succ]
  iterate 5
    refine lex_take (v := ?_) (by kernel_rfl) (by kernel_rfl) ?_ ?_
    rotate_left
    focus
      intro w' hSw
      try dsimp only at hSw
      go_simp <;> with_reducible rfl
    simp only [Act.put, List.setIfInBounds_toArray, List.set_cons_zero, List.set_cons_succ]
  refine lex_nil ?_
  clear hHeld k0 k1 y1
  have HT1 := hid (HT.out.below HB1.out)
  have z0 := CoAt.c0 HT1.out.obj
  have n0 := HBK1.out.cell (i := 0) (v := .int .i64 n.kind) rfl
  have n1 := HBK1.out.cell (i := 1) (v := .int .i64 n.pid) rfl
  have n2 := HBK1.out.cell (i := 2) (v := .int .i64 n.parts) rfl
  by_cases hz : c1 = 0
  · subst hz
    have HOK1 := hid (HOK.out rfl)
    have HROW2 := hid (HROW1.out rfl)
    have HR1 := hid (HRR.out.symm.trans (if_neg (show ¬ ((0 : Int) ≠ 0) by decide)))
    clear HRR HROW1 HOK
    go_wp2_with fail
    have henc := txEncode HOK1.out w1
    unfold TNote.val at henc
    refine henc.mono ?_
    rintro e w2 ⟨rfl, hb2⟩
    have HT2 := hid (HT1.out.below hb2)
    have HB2 := hid (bel_next HB1.out hb2)
    have HROW3 := hid (own_bel HROW2.out hb2)
    have z2 := CoAt.c0 HT2.out.obj
    clear henc hb2 HT1 HBK1 HROW2 z0 n0 n1 n2
    go_wp2_with fail
    have HTA := hid (HT2.out.below (bel_alloc (Below.refl _ _) (.cells #[.int .i64 1, .string (bs n.text)] 111)))
    have hal : ∀ k, v1.ownBlock = some k → Aloof k (w2.alloc (.cells #[.int .i64 1, .string (bs n.text)] 111)) S SL SD := fun k hk => by
      have h9 := HROW3.out.lt k hk
      exact HT.out.aloof (by simp at h9; omega) (by simp; omega)
    have HAL := hid hal
    have HROW4 := hid (own_bel HROW3.out (bel_alloc (Below.refl _ _) (.cells #[.int .i64 1, .string (bs n.text)] 111)))
    have HBA2 := hid (bel_alloc HB2.out (.cells #[.int .i64 1, .string (bs n.text)] 111))
    clear hal
    refine (HAPP.out HOK1.out _ _ HTA.out (items9 w2 _ _ _)).mono ?_
    rintro e w3 ⟨rfl, hto⟩
    obtain ⟨S3, SL3, SD3, ha3, hg3⟩ := (HTA.out.log_to hto).split
    have HA3 := hid ha3
    have HAL3 : Hid (∀ k, v1.ownBlock = some k → Aloof k w3 S3 SL3 SD3) := hid (fun k hk => (hg3 k (HAL.out k hk)).1)
    have HROW5 := hid (row_heap HROW4.out (fun k hk => (hg3 k (HAL.out k hk)).2))
    have z3 := CoAt.c0 ha3.1.obj
    have hT3 : TrioTo (coThing c l) w w3 l d S SL SD C L1 D1 := TrioTo.after HBA2.out ⟨S3, SL3, SD3, ha3⟩
    have HT3 := hid hT3
    clear hto ha3 hg3 z2 HTA HT2 HROW3 HROW4 HAL HB2 hT3
    by_cases herr : err1 = 0
    · subst herr
      have HL2 : Hid L1.WF := hid (HL1.out rfl)
      have HR2 := hid (HR1.out.trans (if_neg (show ¬ ((0 : Int) ≠ 0) by decide)))
      clear HL1 HR1
      go_wp2_with fail
      refine (logSync_any HA3.out.1.log HA3.out.1.disk HW1.out HL2.out).mono ?_
      rintro e w4 ⟨rfl, hto2⟩
      obtain ⟨S4, SL4, SD4, ha4, hg4⟩ := (HA3.out.1.log_to hto2).split
      obtain ⟨L2, D2, err2, hs2⟩ : ∃ L2 D2 err2, L1.sync D1 = (L2, D2, err2) := ⟨_, _, _, rfl⟩
      rw [hs2] at ha4 HR2 ⊢
      dsimp only at ha4
      have HROW6 := hid (row_heap HROW5.out (fun k hk => (hg4 k (HAL3.out k hk)).2))
      have HAL4 : Hid (∀ k, v1.ownBlock = some k → Aloof k w4 S4 SL4 SD4) := hid (fun k hk => (hg4 k (HAL3.out k hk)).1)
      have z4 := CoAt.c0 ha4.1.obj
      have HT4 := hid (TrioTo.after HBA2.out (TrioTo.next HA3.out ⟨S4, SL4, SD4, ha4⟩))
      have HA4 := hid ha4
      clear hto2 hs2 ha4 hg4 HROW5 HAL3 z3 HT3
      by_cases herr2 : err2 = 0
      · subst herr2
        have HR3 := hid (HR2.out.trans (if_neg (show ¬ ((0 : Int) ≠ 0) by decide)))
        clear HR2
        obtain ⟨rv4, hrep4, hS4⟩ := HA4.out.1.obj
        have y4 := hrep4.c0.2
        have f4 := hrep4.hdr.free 1
        obtain ⟨S5, ho5, hf5, hs5⟩ := CoAt.rows_to HA4.out.1.obj HROW6.out
        have HTO : Hid (TrioTo (coThing c l) w (w4.setCell ⟨c, 1, none⟩ v1) l d S SL SD { C with rows := l1 } L2 D2) := hid (
          (TStep.after HBA2.out ((TStep.of HA3.out).next (TStep.of HA4.out))).obj ho5 hf5 (fun k hk => (hs5 k hk).imp id (fun h9 => by have := (HROW6.out.lt k h9).1; have h8 := HB1.out.size; simp at this; omega)))
        obtain ⟨va, vcp, rfl⟩ := row_slice HROW6.out
        clear hrep4 hS4 ho5 hf5 hs5
        go_wp2_with fail
        go_ret
        rw [HR3.out]
        exact ⟨rfl, HTO.out⟩
      · have hz1 : (err2 != 0) = true := by simpa using herr2
        have hz2 : decide (err2 = 0) = false := decide_eq_false herr2
        have HR3 := hid (HR2.out.trans (if_pos herr2))
        clear HR2
        go_wp2_with fail
        go_ret
        rw [HR3.out]
        exact ⟨rfl, HT4.out⟩
    · have hz1 : (err1 != 0) = true := by simpa using herr
      have hz2 : decide (err1 = 0) = false := decide_eq_false herr
      have HR2 := hid (HR1.out.trans (if_pos herr))
      clear HR1
      go_wp2_with fail
      go_ret
      rw [HR2.out]
      exact ⟨rfl, HT3.out⟩
  · have hz1 : (c1 != 0) = true := by simpa using hz
    have hz2 : decide (c1 = 0) = false := decide_eq_false hz
    have HR1 := hid (HRR.out.symm.trans (if_pos hz))
    have hT := TrioTo.of_below HT.out HB1.out
    have HTT := hid hT
    clear HRR hT
    go_wp2_with fail
    go_ret
    rw [HR1.out]
    exact ⟨rfl, HTT.out⟩
end Go.Proofs.YtbnefpdjcbegpaaGreatDoor
