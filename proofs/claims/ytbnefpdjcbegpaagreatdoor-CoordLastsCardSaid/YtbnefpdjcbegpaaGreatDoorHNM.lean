/-
  txn: Decode, of a text that is a note: the walk. No conditions but a text that fits.
  A coordinator, plain: its notes as texts, and what its functions come to. No conditions.
  A coordinator on a disk with room: each note is written; a new one; chapter 13's example: plain. No conditions.
-/
import Derived.Test.YtbnefpdjcbegpaaGreatDoorHKM
import Derived.BigRegion
import Derived.Test.YtbnefpdjcbegpaaGreatDoorHEM
set_option maxRecDepth 100000
namespace Go.Proofs.YtbnefpdjcbegpaaGreatDoor
open Go.RowKit

def DecPost (w : World) (n : TNote) (e : Ending) (w' : World) : Prop := e = .returned (.tuple #[n.val, .int .i64 0]) ∧ Below w.heap.size w w'

set_option maxHeartbeats 1000000 in
theorem dec_ret {w w1 : World} {p : Nat} {n : TNote} {tm : Array Value} (hp : tm[2]? = some (.pointer (some ⟨p, 0, none⟩))) (hc : tm[3]? = some (.int .i64 0)) (hb : Blk w1 p #[.int .i64 n.kind, .int .i64 n.pid, .int .i64 n.parts] 68) (hB : Below w.heap.size w w1) :
    bodyPost Tryz.prog Tryz.f46 (DecPost w n) .ret { tmps := tm, defers := [] } w1 := by
  have c0 := hb.cell (i := 0) (v := .int .i64 n.kind) rfl
  have c1 := hb.cell (i := 1) (v := .int .i64 n.pid) rfl
  have c2 := hb.cell (i := 2) (v := .int .i64 n.parts) rfl
  refine bodyPost_ret (v := .tuple #[n.val, .int .i64 0]) (by simp [results, Tryz.results46, go_sem, hp, hc, c0, c1, c2, TNote.val]) rfl ⟨rfl, hB⟩

set_option maxHeartbeats 4000000 in
theorem txDecode {t : List UInt8} {n : TNote} (h : tnoteOf t = some n) (ht : t.length ≤ 1000000) (w : World) :
    Calls Tryz.prog 46 #[.string (bs t)] w (DecPost w n) := by
  obtain ⟨htk, hok⟩ := tnoteOf_some h
  have HTK := hid htk
  have HCK := hid (fun W => txCheck_yes hok W)
  clear h htk hok
  have hba : Below w.heap.size w (w.alloc (.cells #[.int .i64 0, .int .i64 0, .int .i64 0] 68)) := bel_alloc (Below.refl w.heap.size w) _
  have HBA := hid hba
  have HBK := hid (Blk.new w #[.int .i64 0, .int .i64 0, .int .i64 0] 68)
  clear hba
  unfold TNote.val at HCK
  go_enter Tryz.func46, Tryz.ntmps46
  go_wp2_with fail
  refine (takeAll_any (bs t) 3 _ (by show t.length ≤ _; omega) (by omega)).mono ?_
  rintro e w1 ⟨hb1, hm1⟩
  have e7 : takeAllL 3 (tl (bs t)) = some ([n.kind, n.pid, n.parts], []) := HTK.out
  rw [e7] at hm1
  obtain ⟨v1, rfl, hr1, _⟩ := hm1
  obtain ⟨g, cp, rfl⟩ : ∃ g cap, v1 = .slice (some ⟨g, 0, none⟩) 3 cap := by
    rcases Joins.ownsRow_forms hr1 with ⟨_, hz⟩ | ⟨g, cap, rfl⟩
    · omega
    · exact ⟨g, cap, rfl⟩
  have k0 : w1.cell? ⟨g, 0, none⟩ = some (.int .i64 n.kind) := hr1.cellAt 0 (by omega)
  have k1 : w1.cell? ⟨g, 1, none⟩ = some (.int .i64 n.pid) := hr1.cellAt 1 (by omega)
  have k2 : w1.cell? ⟨g, 2, none⟩ = some (.int .i64 n.parts) := hr1.cellAt 2 (by omega)
  have hg1 := (hr1.lt g rfl).2
  have hgne : g ≠ w1.heap.size := by omega
  have HB1 := hid (bel_next HBA.out hb1)
  have HBK1 := hid (HBK.out.below' hb1)
  have hbn : bs ([] : List UInt8) = ⟨#[]⟩ := rfl
  rw [hbn]
  clear hr1 hb1 e7 HBA HBK
  go_wp2_with fail
  go_region
  have hba2 : Below w.heap.size w (w1.alloc (.cells #[.int .i64 n.kind, .int .i64 n.pid, .int .i64 n.parts] 68)).drew := (bel_alloc HB1.out _).drew
  have hbk2 : Blk (w1.alloc (.cells #[.int .i64 n.kind, .int .i64 n.pid, .int .i64 n.parts] 68)).drew w.heap.size #[.int .i64 0, .int .i64 0, .int .i64 0] 68 := (HBK1.out.alloc _).drew
  have hbn2 : Blk (w1.alloc (.cells #[.int .i64 n.kind, .int .i64 n.pid, .int .i64 n.parts] 68)).drew w1.heap.size #[.int .i64 n.kind, .int .i64 n.pid, .int .i64 n.parts] 68 := (Blk.new w1 _ _).drew
  have hw1 := HBK1.out.lt
  clear HB1 HBK1 k0 k1 k2 hgne hg1
  generalize (w1.alloc (.cells #[.int .i64 n.kind, .int .i64 n.pid, .int .i64 n.parts] 68)).drew = w2 at hba2 hbk2 hbn2 ⊢
  have n0 := hbn2.cell (i := 0) (v := .int .i64 n.kind) rfl
  have n1 := hbn2.cell (i := 1) (v := .int .i64 n.pid) rfl
  have n2 := hbn2.cell (i := 2) (v := .int .i64 n.parts) rfl
  have HBA2 := hid hba2
  have HBK2 := hid hbk2
  have HBN2 := hid hbn2
  clear hba2 hbk2 hbn2
  go_wp2_with fail
  refine (HCK.out _).mono ?_
  rintro e w3 ⟨rfl, hb3⟩
  have HB3 := hid (bel_next HBA2.out hb3)
  have hbk3 := HBK2.out.below' hb3
  have hbn3 := HBN2.out.below' hb3
  have m0 := hbn3.cell (i := 0) (v := .int .i64 n.kind) rfl
  have m1 := hbn3.cell (i := 1) (v := .int .i64 n.pid) rfl
  have m2 := hbn3.cell (i := 2) (v := .int .i64 n.parts) rfl
  have b0 := hbk3.cell (i := 0) (v := .int .i64 0) rfl
  have b1 := hbk3.cell (i := 1) (v := .int .i64 0) rfl
  have b2 := hbk3.cell (i := 2) (v := .int .i64 0) rfl
  have f0 := hbk3.free 0
  have f1 := hbk3.free 1
  have f2 := hbk3.free 2
  have HBK3 := hid hbk3
  clear hb3 hbk3 hbn3 n0 n1 n2 HBA2 HBK2 HBN2
  go_wp2_with fail
  refine dec_ret rfl rfl ?_ ?_
  · simpa using ((HBK3.out.set 0 (.int .i64 n.kind)).set 1 (.int .i64 n.pid)).set 2 (.int .i64 n.parts)
  · exact ((HB3.out.setCell (by simp) _).setCell (by simp) _).setCell (by simp) _
end Go.Proofs.YtbnefpdjcbegpaaGreatDoor

namespace Go.Proofs.YtbnefpdjcbegpaaGreatDoor
open Go.RowKit

def coName : List UInt8 := [116, 120, 110]

theorem TNote.ok.text_len {n : TNote} (h : n.ok) : n.text.length ≤ 18 := by
  have hk := fun x hx => putL_six (n := x) (h.nums_in x hx).1 (by have := (h.nums_in x hx).2; omega)
  have h1 := hk n.kind (by simp [TNote.nums])
  have h2 := hk n.pid (by simp [TNote.nums])
  have h3 := hk n.parts (by simp [TNote.nums])
  unfold TNote.text putAllL TNote.nums
  simp only [List.map_cons, List.map_nil, List.flatten_cons, List.flatten_nil, List.length_append, List.length_nil]
  omega

/-- A coordinator's notes. -/
def coNotes : Notes (List PTr) where
  name := coName
  init := []
  step e s := if e.n = 1 then match tnoteOf e.text with
    | none => none
    | some n => if (foldT s n).2 = 0 then some (foldT s n).1 else none
    else none

theorem coStep {b : Int} {n : TNote} {s s1 : List PTr} (hn : n.ok) (h : foldT s n = (s1, 0)) : coNotes.step ⟨b, 1, n.text⟩ s = some s1 := by
  unfold coNotes
  dsimp only
  rw [if_pos rfl, tnoteOf_text hn]
  dsimp only
  rw [h, if_pos rfl]

theorem coStep_some {e : Ent} {s s1 : List PTr} (h : coNotes.step e s = some s1) : e.n = 1 ∧ ∃ n, tnoteOf e.text = some n ∧ foldT s n = (s1, 0) := by
  unfold coNotes at h
  dsimp only at h
  split at h
  · rename_i h1
    refine ⟨h1, ?_⟩
    cases hn : tnoteOf e.text with
    | none => rw [hn] at h; cases h
    | some n =>
      rw [hn] at h
      dsimp only at h
      split at h
      · rename_i h2
        injection h with h
        exact ⟨n, rfl, by rw [← h, ← h2]⟩
      · cases h
  · cases h

theorem coRight {l : List Ent} {s : List PTr} (h : coNotes.replay l [] = some s) : TRight s :=
  coNotes.replay_keeps (R := TRight) (fun _ _ _ hs h1 => by
    obtain ⟨_, n, _, hf⟩ := coStep_some h1
    exact (foldT_ok hs hf).right) TRight.nil h

/-- A note that fits is written. -/
def coWrite (s : List PTr) (L : PLog) (D : PDisk) (n : TNote) : List PTr × PLog × PDisk × Int :=
  if (foldT s n).2 ≠ 0 then (s, L, D, (foldT s n).2) else noteTo s (foldT s n).1 L D ⟨1, n.text⟩

structure PCo where
  rows : List PTr
  due : List Int
  now : Int

def coReady (L : PLog) (pid : Int) : Int := if pid < 1 ∨ 8 < pid then 1 else L.e
def rowE (s : List PTr) (pid epoch : Int) : Int := match rowOf s pid with | none => 3 | some t => if t.epoch ≠ epoch then 8 else 0

/-- What a call comes to: the coordinator, its log, its disk, a number, an error. -/
structure CRes where
  C : PCo
  L : PLog
  D : PDisk
  n : Int
  e : Int

def PCo.init (C : PCo) (L : PLog) (D : PDisk) (pid : Int) : CRes :=
  if coReady L pid ≠ 0 then ⟨C, L, D, 0, coReady L pid⟩ else
  if rowC C.rows pid = 0 ∧ (rowZ C.rows pid).state ≠ 1 then ⟨C, L, D, 0, 10⟩ else
  let r := coWrite C.rows L D ⟨1, pid, 0⟩
  if r.2.2.2 ≠ 0 then ⟨{ C with rows := r.1 }, r.2.1, r.2.2.1, 0, r.2.2.2⟩ else ⟨{ C with rows := r.1 }, r.2.1, r.2.2.1, (rowZ r.1 pid).epoch, 0⟩

def andI (a b : Int) : Int := bits BinOp.and IntKind.i64 a b

def PCo.add (C : PCo) (L : PLog) (D : PDisk) (pid epoch parts : Int) : CRes :=
  if ¬ (TNote.mk 2 pid parts).ok then ⟨C, L, D, 0, 1⟩ else
  if coReady L pid ≠ 0 then ⟨C, L, D, 0, coReady L pid⟩ else
  if rowE C.rows pid epoch ≠ 0 then ⟨C, L, D, 0, rowE C.rows pid epoch⟩ else
  if (rowZ C.rows pid).state = 3 ∨ (rowZ C.rows pid).state = 4 then ⟨C, L, D, 0, 10⟩ else
  if andI (rowZ C.rows pid).parts parts = parts then ⟨{ C with due := C.due.set pid.toNat (C.now + 10) }, L, D, 0, 0⟩ else
  let r := coWrite C.rows L D ⟨2, pid, parts⟩
  if r.2.2.2 ≠ 0 then ⟨{ C with rows := r.1 }, r.2.1, r.2.2.1, 0, r.2.2.2⟩ else ⟨{ C with rows := r.1, due := C.due.set pid.toNat (C.now + 10) }, r.2.1, r.2.2.1, 0, 0⟩

/-- n: 1 if the transaction is at its end already. -/
def PCo.fin (C : PCo) (L : PLog) (D : PDisk) (pid epoch : Int) (yes : Bool) : CRes :=
  if coReady L pid ≠ 0 then ⟨C, L, D, 0, coReady L pid⟩ else
  let k : Int := if yes then 3 else 4
  let t := rowZ C.rows pid
  if rowE C.rows pid epoch = 8 ∧ t.epoch - 1 = epoch ∧ t.state = 1 ∧ t.last = k then ⟨C, L, D, 1, 0⟩ else
  if rowE C.rows pid epoch ≠ 0 then ⟨C, L, D, 0, rowE C.rows pid epoch⟩ else
  if t.state = k then ⟨C, L, D, 0, 0⟩ else
  if t.state ≠ 2 then ⟨C, L, D, 0, 9⟩ else
  let r := coWrite C.rows L D ⟨k, pid, 0⟩
  ⟨{ C with rows := r.1 }, r.2.1, r.2.2.1, 0, r.2.2.2⟩

def PCo.complete (C : PCo) (L : PLog) (D : PDisk) (pid : Int) : CRes :=
  if coReady L pid ≠ 0 then ⟨C, L, D, 0, coReady L pid⟩ else
  let r := coWrite C.rows L D ⟨5, pid, 0⟩
  if r.2.2.2 ≠ 0 then ⟨{ C with rows := r.1 }, r.2.1, r.2.2.1, 0, r.2.2.2⟩ else ⟨{ C with rows := r.1 }, r.2.1, r.2.2.1, (rowZ r.1 pid).epoch, 0⟩

def PCo.tick (C : PCo) : PCo := { C with now := C.now + 1 }
/-- Whose transactions are to be given up. -/
def PCo.late (C : PCo) : List Int := (C.rows.filter fun t => t.state == 2 && decide (C.due.getD t.pid.toNat 0 ≤ C.now)).map PTr.pid

theorem coWrite_good {N : Int} {Q : List PTr → List PTr → Prop} {s : List PTr} {A : ALog} {D : PDisk} {n : TNote} (h : NGood coNotes N s A D) (hq : ∀ s1, foldT s n = (s1, 0) → Q s s1) :
    (∃ c, c ≠ 0 ∧ (foldT s n).2 = c ∧ coWrite s A.toP D n = (s, A.toP, D, c)) ∨ (∃ s1, foldT s n = (s1, 0) ∧ n.ok ∧ coWrite s A.toP D n = noteTo s s1 A.toP D ⟨1, n.text⟩ ∧ NOut coNotes N Q s A D s1 (noteTo s s1 A.toP D ⟨1, n.text⟩)) := by
  unfold coWrite
  by_cases hc : (foldT s n).2 = 0
  · have hf : foldT s n = ((foldT s n).1, 0) := by rw [← hc]
    have hok := (foldT_ok (coRight h.rep) hf).ok
    refine .inr ⟨(foldT s n).1, hf, hok, ?_, h.note (coStep hok hf) (hq _ hf)⟩
    rw [if_neg (fun h9 => h9 hc)]
  · refine .inl ⟨_, hc, rfl, ?_⟩
    rw [if_pos hc]
end Go.Proofs.YtbnefpdjcbegpaaGreatDoor

namespace Go.Proofs.YtbnefpdjcbegpaaGreatDoor
open Go.RowKit

def aC : ALog := ⟨coName, [], 0, 0⟩
def dC : PDisk := ⟨[], 1000, -1, false⟩

theorem dC_wf : dC.WF 1000 := ⟨by simp [dC, Sorted], by simp [dC], by simp [dC], by decide, by decide +kernel, by decide, by decide, by decide⟩
theorem aC_inv : Inv aC dC := by
  refine ⟨by decide, Int.le_refl _, (by decide : (0 : Int) ≤ 1099511627776), trivial, fun s hs => by simp [aC] at hs, rfl, ?_, fun s f hs => by simp [aC] at hs, fun _ => rfl⟩
  intro f hf
  have hf : f ∈ ([] : List PFile).dropLast := hf
  cases hf
theorem dC_open : dC.openLog coName = (aC.toP, dC, 0) := by kernel_rfl

/-- A coordinator's log and disk, with room behind so many notes. -/
structure CoRoom (k : Nat) (rows : List PTr) (A : ALog) (D : PDisk) : Prop where
  good : NGood coNotes 1000 rows A D
  room : Roomed k A D

theorem co_new : NGood coNotes 1000 [] aC dC := ⟨aC_inv, dC_wf, rfl, rfl, rfl, rfl, rfl, rfl⟩
theorem co_room : CoRoom 0 [] aC dC := ⟨co_new, rfl, by decide, by decide, by decide⟩

theorem CoRoom.right {k : Nat} {rows : List PTr} {A : ALog} {D : PDisk} (h : CoRoom k rows A D) : TRight rows := coRight h.good.rep
theorem CoRoom.more {k : Nat} {rows : List PTr} {A : ALog} {D : PDisk} (h : CoRoom k rows A D) : CoRoom (k + 1) rows A D := ⟨h.good, h.room.more⟩

/-- With room, what fits is written. -/
theorem CoRoom.write {k : Nat} {rows s1 : List PTr} {A : ALog} {D : PDisk} {n : TNote} (h : CoRoom k rows A D) (hk : k ≤ 82) (hf : foldT rows n = (s1, 0)) :
    ∃ A' D', coWrite rows A.toP D n = (s1, A'.toP, D', 0) ∧ CoRoom (k + 1) s1 A' D' := by
  have hok := (foldT_ok h.right hf).ok
  obtain ⟨A', D', h1, h2, h3⟩ := h.good.note_room h.room hk (by have := hok.text_len; omega) (coStep hok hf)
  refine ⟨A', D', ?_, h2, h3⟩
  unfold coWrite
  rw [hf]
  exact (if_neg (fun h9 => h9 rfl)).trans h1

theorem CoRoom.ready {k : Nat} {rows : List PTr} {A : ALog} {D : PDisk} (h : CoRoom k rows A D) {pid : Int} (hp : 1 ≤ pid ∧ pid ≤ 8) : coReady A.toP pid = 0 := by
  unfold coReady
  rw [if_neg (by omega)]
  exact h.good.e

def due0 : List Int := [10, 10, 10, 10, 10, 10, 10, 10, 10]
def cR1 : List PTr := [⟨1, 1, 1, 0, 0⟩]
def cR2 : List PTr := [⟨1, 1, 2, 3, 0⟩]
def cR3 : List PTr := [⟨1, 1, 3, 3, 0⟩]
def cR4 : List PTr := [⟨1, 2, 1, 0, 3⟩]

section
variable {k : Nat} {A : ALog} {D : PDisk}

theorem co_w1 (h : CoRoom k [] A D) (hk : k ≤ 82) : ∃ A' D', PCo.init ⟨[], due0, 0⟩ A.toP D 1 = ⟨⟨cR1, due0, 0⟩, A'.toP, D', 1, 0⟩ ∧ CoRoom (k + 1) cR1 A' D' := by
  obtain ⟨A', D', h1, h2⟩ := h.write (n := ⟨1, 1, 0⟩) (s1 := cR1) hk (by kernel_rfl)
  refine ⟨A', D', ?_, h2⟩
  unfold PCo.init
  dsimp only
  rw [h.ready (by decide), if_neg (fun h9 => h9 rfl), if_neg (by decide), h1]
  rfl

theorem co_w2 (h : CoRoom k cR1 A D) (hk : k ≤ 82) : ∃ A' D', PCo.add ⟨cR1, due0, 0⟩ A.toP D 1 1 3 = ⟨⟨cR2, due0, 0⟩, A'.toP, D', 0, 0⟩ ∧ CoRoom (k + 1) cR2 A' D' := by
  obtain ⟨A', D', h1, h2⟩ := h.write (n := ⟨2, 1, 3⟩) (s1 := cR2) hk (by kernel_rfl)
  refine ⟨A', D', ?_, h2⟩
  unfold PCo.add
  dsimp only
  rw [if_neg (by decide), h.ready (by decide), if_neg (fun h9 => h9 rfl), if_neg (by decide), if_neg (by decide), if_neg (by decide), h1]
  rfl

theorem co_w3 (h : CoRoom k cR2 A D) (hk : k ≤ 82) : ∃ A' D', PCo.fin ⟨cR2, due0, 0⟩ A.toP D 1 1 true = ⟨⟨cR3, due0, 0⟩, A'.toP, D', 0, 0⟩ ∧ CoRoom (k + 1) cR3 A' D' := by
  obtain ⟨A', D', h1, h2⟩ := h.write (n := ⟨3, 1, 0⟩) (s1 := cR3) hk (by kernel_rfl)
  refine ⟨A', D', ?_, h2⟩
  unfold PCo.fin
  dsimp only
  rw [h.ready (by decide), if_neg (fun h9 => h9 rfl), if_neg (by decide), if_neg (by decide), if_neg (by decide), if_neg (by decide), if_pos rfl, h1]

theorem co_w4 (h : CoRoom k cR3 A D) (hk : k ≤ 82) : ∃ A' D', PCo.complete ⟨cR3, due0, 0⟩ A.toP D 1 = ⟨⟨cR4, due0, 0⟩, A'.toP, D', 2, 0⟩ ∧ CoRoom (k + 1) cR4 A' D' := by
  obtain ⟨A', D', h1, h2⟩ := h.write (n := ⟨5, 1, 0⟩) (s1 := cR4) hk (by kernel_rfl)
  refine ⟨A', D', ?_, h2⟩
  unfold PCo.complete
  dsimp only
  rw [h.ready (by decide), if_neg (fun h9 => h9 rfl), h1]
  rfl

theorem co_w5 (h : CoRoom k cR4 A D) : PCo.fin ⟨cR4, due0, 0⟩ A.toP D 1 1 true = ⟨⟨cR4, due0, 0⟩, A.toP, D, 1, 0⟩ := by
  unfold PCo.fin
  dsimp only
  rw [h.ready (by decide), if_neg (fun h9 => h9 rfl), if_pos (by decide)]

theorem co_w6 (h : CoRoom k cR4 A D) : PCo.fin ⟨cR4, due0, 0⟩ A.toP D 1 1 false = ⟨⟨cR4, due0, 0⟩, A.toP, D, 0, 8⟩ := by
  unfold PCo.fin
  dsimp only
  rw [h.ready (by decide), if_neg (fun h9 => h9 rfl), if_neg (by decide), if_pos (by decide)]
  rfl
end
end Go.Proofs.YtbnefpdjcbegpaaGreatDoor
