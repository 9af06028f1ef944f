/-
  A partition, plain: what it knows, and what its functions come to. No conditions.
  A partition on a disk, plain: what a batch that is written comes to, its entry too. No conditions.
  part: how a partition lies in memory; none, Stable, End: the walks. No conditions.
  slices.IndexFunc, slices.Clone at what a partition knows of transactions: the walks. Conditions: rows that read.
  part: find, Stable, End, Prods, Opens, Gones: the walks. No conditions.
  part: out: the walk. No conditions.
  part: a partition's rows are set; things turned one behind the other. No conditions.
  What stays true of a partition, whatever its log has: plain. No conditions.
-/
import Derived.Test.YtgjkjkeeblbjlaaGreatDoorJBM
import Derived.Test.YtgjkjkeeblbjlaaGreatDoorHEM
import Derived.Test.YtgjkjkeeblbjlaaGreatDoorJAM
import Derived.Test.YtgjkjkeeblbjlaaGreatDoorHFM
import Derived.Deep.LoopGhost
import Derived.Shelf.Abstract
import Derived.Lib.Walk
import Derived.Lib.SmallJoins
import Derived.Lib.SliceRun
import Derived.Test.YtgjkjkeeblbjlaaGreatDoorGDM
import Derived.Test.YtgjkjkeeblbjlaaGreatDoorGEM
set_option maxRecDepth 100000
namespace Go.Proofs.YtgjkjkeeblbjlaaGreatDoor
open Go.RowKit

/-- A transaction that is open. -/
structure POpen where
  pid : Int
  first : Int
deriving DecidableEq
/-- One that was given up. -/
structure PGone where
  pid : Int
  first : Int
  last : Int
deriving DecidableEq

structure PPart where
  prods : List PProd
  opens : List POpen
  gones : List PGone

def openOf (l : List POpen) (pid : Int) : Option POpen := l.find? fun o => o.pid == pid
def openCut : List POpen → Int → List POpen
  | [], _ => []
  | x :: l, pid => if x.pid = pid then l else x :: openCut l pid

/-- A batch that stands at an offset is noted. -/
def PPart.took (s : PPart) (b : PBat) (base : Int) : PPart :=
  match openOf s.opens b.pid with
  | none => { s with prods := noteP s.prods b base, opens := if b.kind = 2 then s.opens ++ [⟨b.pid, base⟩] else s.opens }
  | some o => { prods := noteP s.prods b base, opens := if b.kind = 3 ∨ b.kind = 4 then openCut s.opens b.pid else s.opens, gones := if b.kind = 4 then s.gones ++ [⟨b.pid, o.first, base⟩] else s.gones }

def paName : List UInt8 := [112]

/-- A partition's notes are its batches. -/
def paNotes : Notes PPart where
  name := paName
  init := ⟨[], [], []⟩
  step e s := match batOf e.text with
    | none => none
    | some b => if e.n = b.len then some (s.took b e.base) else none

theorem paStep {base : Int} {b : PBat} (h : b.ok) (s : PPart) : paNotes.step ⟨base, b.len, b.lay⟩ s = some (s.took b base) := by
  unfold paNotes
  dsimp only
  rw [batOf_lay h]
  dsimp only
  rw [if_pos rfl]

theorem paStep_some {e : Ent} {s s1 : PPart} (h : paNotes.step e s = some s1) : ∃ b, batOf e.text = some b ∧ e.n = b.len ∧ s1 = s.took b e.base := by
  unfold paNotes at h
  dsimp only at h
  cases hb : batOf e.text with
  | none => rw [hb] at h; cases h
  | some b =>
    rw [hb] at h
    dsimp only at h
    split at h
    · rename_i h1
      injection h with h
      exact ⟨b, rfl, h1, h.symm⟩
    · cases h

/-- A batch that may be is written: what is known, its log, its disk, an error. -/
def paWrite (s : PPart) (L : PLog) (D : PDisk) (b : PBat) : PPart × PLog × PDisk × Int := noteTo s (s.took b L.next) L D ⟨b.len, b.lay⟩

theorem paWrite_out {N : Int} {Q : PPart → PPart → Prop} {s : PPart} {A : ALog} {D : PDisk} {b : PBat} (h : NGood paNotes N s A D) (hb : b.ok) (hq : Q s (s.took b A.next)) : NOut paNotes N Q s A D (s.took b A.next) (paWrite s A.toP D b) :=
  h.note (it := ⟨b.len, b.lay⟩) (paStep hb s) hq

/-- What a call comes to: what is known, the log, the disk, a number, a word, an error. -/
structure PaRes where
  s : PPart
  L : PLog
  D : PDisk
  n : Int
  yes : Bool
  e : Int

def PPart.put (s : PPart) (L : PLog) (D : PDisk) (b : PBat) : PaRes :=
  if L.e ≠ 0 then ⟨s, L, D, 0, false, L.e⟩ else
  let k := lookP s.prods b
  if k.2.2 ≠ 0 ∨ k.2.1 = true then ⟨s, L, D, k.1, k.2.1, k.2.2⟩ else
  let r := paWrite s L D b
  ⟨r.1, r.2.1, r.2.2.1, if r.2.2.2 ≠ 0 then 0 else L.next, false, r.2.2.2⟩

/-- The mark of a transaction's end. -/
def markOf (pid epoch : Int) (yes : Bool) : PBat := ⟨if yes then 3 else 4, pid, epoch, 0, []⟩

def PPart.mark (s : PPart) (L : PLog) (D : PDisk) (pid epoch : Int) (yes : Bool) : PaRes :=
  if ¬ (markOf pid epoch yes).ok then ⟨s, L, D, 0, false, 1⟩ else
  if L.e ≠ 0 then ⟨s, L, D, 0, false, L.e⟩ else
  if (s.prods.any fun x => decide (x.pid = pid) && decide (epoch < x.epoch)) = true then ⟨s, L, D, 0, false, 8⟩ else
  match openOf s.opens pid with
  | none => ⟨s, L, D, 0, false, 0⟩
  | some _ => let r := paWrite s L D (markOf pid epoch yes); ⟨r.1, r.2.1, r.2.2.1, 0, false, r.2.2.2⟩

def PPart.stable (s : PPart) (L : PLog) : Int := match s.opens with
  | [] => L.next
  | o :: _ => o.first

/-- Was a transaction's batch given up? -/
def PPart.out (s : PPart) (pid base : Int) : Bool := s.gones.any fun g => decide (g.pid = pid) && (decide (g.first ≤ base) && decide (base < g.last))

/-- A record that is fetched. -/
structure PGot where
  off : Int
  r : PRec
deriving DecidableEq

/-- The records of a batch, from an offset on. -/
def gotsOf (base off : Int) (l : List PRec) : List PGot := (l.mapIdx fun i r => (⟨base + i, r⟩ : PGot)).filter fun g => decide (off ≤ g.off)

/-- What is fetched of some entries. -/
def PPart.gets (s : PPart) (stable off : Int) (committed : Bool) : List Ent → List PGot × Int → List PGot × Int
  | [], r => r
  | x :: l, r =>
    if committed = true ∧ stable ≤ x.base then r else
    match batOf x.text with
    | none => s.gets stable off committed l (r.1, x.base + x.n)
    | some b => if committed = true ∧ b.kind = 2 ∧ s.out b.pid x.base = true then s.gets stable off committed l (r.1, x.base + x.n) else s.gets stable off committed l (r.1 ++ gotsOf x.base off b.l, x.base + x.n)
end Go.Proofs.YtgjkjkeeblbjlaaGreatDoor

namespace Go.Proofs.YtgjkjkeeblbjlaaGreatDoor
open Go.RowKit

/-- What an entry comes to. -/
inductive EOut {σ : Type} (P : Notes σ) (N : Int) (Q : σ → σ → Prop) (s : σ) (A : ALog) (D : PDisk) (it : PItem) (s1 : σ) : σ × PLog × PDisk × Int → Prop
  | ok (A' : ALog) (D' : PDisk) (good : NGood P N s1 A' D') (fuse : D.fuse = -1 → D'.fuse = -1) (all : A'.all = A.all ++ [⟨A.next, it.n, it.text⟩]) (next : A'.next = A.next + it.n) (n : 1 ≤ it.n) : EOut P N Q s A D it s1 (s1, A'.toP, D', 0)
  | no (A' : ALog) (D' : PDisk) (c : Int) (good : NGood P N s A' D') (hc : c ≠ 0) (fuse : D.fuse = -1 → D'.fuse = -1) (all : A'.all = A.all) : EOut P N Q s A D it s1 (s, A'.toP, D', c)
  | dark (A' : ALog) (D' : PDisk) (dark : NDark P N Q s A' D') (was : D.fuse ≠ -1) : EOut P N Q s A D it s1 (s, A'.toP, D', 4)

theorem NGood.entry {σ : Type} {P : Notes σ} {N : Int} {Q : σ → σ → Prop} {s s1 : σ} {A : ALog} {D : PDisk} {it : PItem} (h : NGood P N s A D) (hf : P.step ⟨A.next, it.n, it.text⟩ s = some s1) (hq : Q s s1) : EOut P N Q s A D it s1 (noteTo s s1 A.toP D it) := by
  obtain ⟨hch, hend⟩ := h.chain
  have hrep2 : P.replay (A.all ++ [⟨A.next, it.n, it.text⟩]) P.init = some s1 := P.replay_snoc h.rep hf
  have hwf : (A.toP.append D [it]).2.1.WF N := PLog.append_disk h.wf _
  have hwf2 : ∀ {A1 : ALog} {D1 : PDisk}, D1.WF N → (A1.sync D1).2.1.WF N := by
    intro A1 D1 h9
    have := PLog.sync_disk (L := A1.toP) h9
    rw [toP_sync] at this
    exact this
  have ho := h.inv.append_out h.wf h.e [it]
  unfold noteTo
  rw [toP_append] at hwf ⊢
  generalize A.append D [it] = r at ho hwf ⊢
  cases ho with
  | ok A' D' inv name all next chain first e sure own' off fuse ents =>
    dsimp only at hwf ⊢
    rw [if_neg (by decide), toP_sync]
    have hs := inv.sync_out hwf e
    have hw2 := hwf2 (A1 := A') hwf
    rw [mkEnts_one] at all next chain
    have hlt := chain.lt (by simp)
    generalize A'.sync D' = q at hs hw2 ⊢
    cases hs with
    | ok A2 D2 inv2 name2 segs2 e2 sure2 room2 len2 own2 off2 fuse2 =>
      dsimp only
      rw [if_neg (by decide)]
      have hf2 : A2.first = A.first := by unfold ALog.first at first ⊢; rw [segs2]; exact first
      have hn2 : A2.next = A'.next := by unfold ALog.next; rw [segs2]
      have ha2 : A2.all = A'.all := by unfold ALog.all; rw [segs2]
      have hn3 : endOf A.next [⟨A.next, it.n, it.text⟩] = A.next + it.n := rfl
      rw [hn3] at next hlt
      exact .ok A2 D2 ⟨inv2, hw2, by rw [name2, name]; exact h.name, e2, by rw [hf2]; exact h.first, off2 off, by rw [ha2, all]; exact hrep2, by rw [sure2, hn2]⟩ (fun h9 => fuse2 (fuse h9)) (by rw [ha2, all]) (by rw [hn2, next]) (by omega)
    | dark D2 inv2 off2 was2 =>
      dsimp only
      rw [if_pos (by decide)]
      refine .dark { A' with e := 4 } D2 ⟨rfl, off2, hw2, { A' with e := 4 }, A.all, [⟨A.next, it.n, it.text⟩], inv2, by show A'.name = _; rw [name]; exact h.name, first.trans h.first, all, hch, ?_, h.rep, .inr ⟨_, s1, rfl, hf, hq⟩⟩ ?_
      · show endOf 0 A.all ≤ A'.sure
        rw [hend, ← h.sure]; exact sure
      · intro h9
        have h10 := fuse h9
        rcases was2 with h11 | h11
        · rw [off] at h11; cases h11
        · omega
  | full A' D' inv name segs e sure room len own' off fuse =>
    dsimp only at hwf ⊢
    rw [if_pos (by decide)]
    have hf2 : A'.first = A.first := by unfold ALog.first; rw [segs]
    have hn2 : A'.next = A.next := by unfold ALog.next; rw [segs]
    have ha2 : A'.all = A.all := by unfold ALog.all; rw [segs]
    refine .no A' D' 5 ⟨inv, hwf, by rw [name]; exact h.name, e, by rw [hf2]; exact h.first, off, by rw [ha2]; exact h.rep, ?_⟩ (by decide) fuse ha2
    have h1 := inv.sure_le.2
    have h2 := h.sure
    omega
  | bad c why =>
    dsimp only
    have hc : c ≠ 0 := by
      rcases why with ⟨_, h1⟩ | ⟨_, _, h1⟩ <;> omega
    rw [if_pos hc]
    exact .no A D c h hc id rfl
  | dark A' A2 D' inv name name2 segs sure sure' e chain max all off was first =>
    dsimp only at hwf ⊢
    rw [if_pos (by decide)]
    rw [mkEnts_one] at all
    have hs2 : endOf 0 A.all ≤ A2.sure := by rw [hend, ← h.sure, sure]; exact sure'
    refine .dark A' D' ⟨e, off, hwf, A2, A.all, ?_⟩ ?_
    · rcases all with hall | hall
      · exact ⟨[], inv, by rw [name2]; exact h.name, first.trans h.first, by rw [hall, List.append_nil], hch, hs2, h.rep, .inl rfl⟩
      · exact ⟨[⟨A.next, it.n, it.text⟩], inv, by rw [name2]; exact h.name, first.trans h.first, hall, hch, hs2, h.rep, .inr ⟨_, s1, rfl, hf, hq⟩⟩
    · intro h9
      rcases was with h10 | h10
      · rw [h.off] at h10; cases h10
      · omega
end Go.Proofs.YtgjkjkeeblbjlaaGreatDoor

namespace Go.Proofs.YtgjkjkeeblbjlaaGreatDoor
open Go.RowKit

def POpen.cells (o : POpen) : List Value := [.int .i64 o.pid, .int .i64 o.first]
def opCells (l : List POpen) : List Value := l.flatMap POpen.cells
def PGone.cells (g : PGone) : List Value := [.int .i64 g.pid, .int .i64 g.first, .int .i64 g.last]
def goCells (l : List PGone) : List Value := l.flatMap PGone.cells

theorem opCells_len (l : List POpen) : (opCells l).length = l.length * 2 := by
  induction l with
  | nil => rfl
  | cons x l ih => unfold opCells at ih ⊢; rw [List.flatMap_cons, List.length_append, ih]; simp [POpen.cells]; omega
theorem opCells_app (a b : List POpen) : opCells (a ++ b) = opCells a ++ opCells b := by unfold opCells; rw [List.flatMap_append]
theorem goCells_len (l : List PGone) : (goCells l).length = l.length * 3 := by
  induction l with
  | nil => rfl
  | cons x l ih => unfold goCells at ih ⊢; rw [List.flatMap_cons, List.length_append, ih]; simp [PGone.cells]; omega
theorem goCells_app (a b : List PGone) : goCells (a ++ b) = goCells a ++ goCells b := by unfold goCells; rw [List.flatMap_append]

theorem opCells_at : ∀ (q : List POpen) (i : Nat) (x : POpen), q[i]? = some x → (opCells q)[i * 2]? = some (.int .i64 x.pid) ∧ (opCells q)[i * 2 + 1]? = some (.int .i64 x.first)
  | [], _, _, h => by simp at h
  | y :: q, 0, x, h => by
    simp at h
    subst h
    exact ⟨rfl, rfl⟩
  | y :: q, i + 1, x, h => by
    obtain ⟨a, b⟩ := opCells_at q i x (by simpa using h)
    have e : opCells (y :: q) = y.cells ++ opCells q := rfl
    have e2 : y.cells.length = 2 := rfl
    refine ⟨?_, ?_⟩
    · rw [e, List.getElem?_append_right (by omega), e2, show (i + 1) * 2 - 2 = i * 2 from by omega]; exact a
    · rw [e, List.getElem?_append_right (by omega), e2, show (i + 1) * 2 + 1 - 2 = i * 2 + 1 from by omega]; exact b

theorem goCells_at : ∀ (q : List PGone) (i : Nat) (x : PGone), q[i]? = some x → (goCells q)[i * 3]? = some (.int .i64 x.pid) ∧ (goCells q)[i * 3 + 1]? = some (.int .i64 x.first) ∧ (goCells q)[i * 3 + 2]? = some (.int .i64 x.last)
  | [], _, _, h => by simp at h
  | y :: q, 0, x, h => by
    simp at h
    subst h
    exact ⟨rfl, rfl, rfl⟩
  | y :: q, i + 1, x, h => by
    obtain ⟨a, b, c⟩ := goCells_at q i x (by simpa using h)
    have e : goCells (y :: q) = y.cells ++ goCells q := rfl
    have e2 : y.cells.length = 3 := rfl
    refine ⟨?_, ?_, ?_⟩
    · rw [e, List.getElem?_append_right (by omega), e2, show (i + 1) * 3 - 3 = i * 3 from by omega]; exact a
    · rw [e, List.getElem?_append_right (by omega), e2, show (i + 1) * 3 + 1 - 3 = i * 3 + 1 from by omega]; exact b
    · rw [e, List.getElem?_append_right (by omega), e2, show (i + 1) * 3 + 2 - 3 = i * 3 + 2 from by omega]; exact c

theorem op_one (l : List POpen) : ∀ u ∈ opCells l, u.oneCell' = true := by
  intro u hu
  unfold opCells at hu
  obtain ⟨x, _, hx⟩ := List.mem_flatMap.1 hu
  simp only [POpen.cells, List.mem_cons, List.not_mem_nil, or_false] at hx
  rcases hx with rfl | rfl <;> rfl
theorem go_one (l : List PGone) : ∀ u ∈ goCells l, u.oneCell' = true := by
  intro u hu
  unfold goCells at hu
  obtain ⟨x, _, hx⟩ := List.mem_flatMap.1 hu
  simp only [PGone.cells, List.mem_cons, List.not_mem_nil, or_false] at hx
  rcases hx with rfl | rfl | rfl <;> rfl

structure PaRep (w : World) (p l : Nat) (pv ov gv : Value) (s : PPart) : Prop where
  hdr : Blk w p #[.pointer (some ⟨l, 0, none⟩), pv, ov, gv] 82
  prods : w.ownsRow 0 91 5 pv s.prods.length (prCells s.prods)
  opens : w.ownsRow 0 58 2 ov s.opens.length (opCells s.opens)
  gones : w.ownsRow 0 111 3 gv s.gones.length (goCells s.gones)

def PaAt (p l : Nat) (w : World) (S : Nat → Prop) (s : PPart) : Prop := ∃ pv ov gv, PaRep w p l pv ov gv s ∧ ∀ k, S k ↔ (k = p ∨ pv.ownBlock = some k ∨ ov.ownBlock = some k ∨ gv.ownBlock = some k)

theorem row_blk8 {w : World} {base : Nat} {e : TypeId} {size : Nat} {v : Value} {n : Nat} {xs : List Value} (h : w.ownsRow base e size v n xs) {k : Nat} (hk : v.ownBlock = some k) : ∃ c, Blk w k c e := by
  rcases h.2 with ⟨rfl, _⟩ | ⟨g, cap, cur, rfl, _, hh, _⟩
  · cases hk
  · simp only [Value.ownBlock, Option.some.injEq] at hk
    subst hk
    exact ⟨cur, hh⟩

/-- A partition, as a thing in memory. -/
def paThing (p l : Nat) : Thing PPart where
  held := PaAt p l
  types := [82, 91, 58, 111]
  fr := by
    rintro w w' S S0 s ⟨pv, ov, gv, h, hS⟩ hf hn
    exact ⟨pv, ov, gv, ⟨h.hdr.fr hf (hn p ((hS p).2 (.inl rfl))), row_fr h.prods hf (fun k hk => hn k ((hS k).2 (.inr (.inl hk)))), row_fr h.opens hf (fun k hk => hn k ((hS k).2 (.inr (.inr (.inl hk))))), row_fr h.gones hf (fun k hk => hn k ((hS k).2 (.inr (.inr (.inr hk)))))⟩, hS⟩
  kind := by
    rintro w S s k ⟨pv, ov, gv, h, hS⟩ hk
    rcases (hS k).1 hk with rfl | h1 | h1 | h1
    · exact ⟨_, _, h.hdr, by simp⟩
    · obtain ⟨cs, hc⟩ := row_blk8 h.prods h1
      exact ⟨cs, _, hc, by simp⟩
    · obtain ⟨cs, hc⟩ := row_blk8 h.opens h1
      exact ⟨cs, _, hc, by simp⟩
    · obtain ⟨cs, hc⟩ := row_blk8 h.gones h1
      exact ⟨cs, _, hc, by simp⟩
  apart := by decide

theorem PaAt.rep {p l : Nat} {w : World} {S : Nat → Prop} {s : PPart} (h : (paThing p l).held w S s) : ∃ pv ov gv, PaRep w p l pv ov gv s := by
  obtain ⟨pv, ov, gv, h, _⟩ := h
  exact ⟨pv, ov, gv, h⟩

theorem paNone_any {p l : Nat} {w : World} {S : Nat → Prop} {s : PPart} (h : (paThing p l).held w S s) : Calls Tryz.prog 34 #[.pointer (some ⟨p, 0, none⟩)] w fun e w' => e = .returned (.bool false) ∧ w = w' := by
  obtain ⟨pv, ov, gv, h⟩ := PaAt.rep h
  have c0 := h.hdr.cell (i := 0) (v := .pointer (some ⟨l, 0, none⟩)) rfl
  clear h
  go_enter Tryz.func34, Tryz.ntmps34
  go_wp2_with fail
  go_ret
  exact ⟨rfl, rfl⟩

theorem paNone_nil (w : World) : Calls Tryz.prog 34 #[.pointer none] w fun e w' => e = .returned (.bool true) ∧ w = w' := by
  go_enter Tryz.func34, Tryz.ntmps34
  go_wp2_with fail
  go_ret
  exact ⟨rfl, rfl⟩
end Go.Proofs.YtgjkjkeeblbjlaaGreatDoor

namespace Go.Proofs.YtgjkjkeeblbjlaaGreatDoor
open Go.RowKit

def POpen.val (x : POpen) : Value := .agg #[.int .i64 x.pid, .int .i64 x.first]
def PGone.val (x : PGone) : Value := .agg #[.int .i64 x.pid, .int .i64 x.first, .int .i64 x.last]

/-- The cells of rows. -/
def OpRead (w : World) (g : Nat) (l : List POpen) : Prop :=
  ∀ j x, l[j]? = some x → w.cell? ⟨g, j * 2, none⟩ = some (.int .i64 x.pid) ∧ w.cell? ⟨g, j * 2 + 1, none⟩ = some (.int .i64 x.first)

theorem OpRead.below {w w' : World} {g : Nat} {l : List POpen} (h : OpRead w g l) (hb : Below w.heap.size w w') (hg : g < w.heap.size) : OpRead w' g l := by
  intro j x hx
  obtain ⟨h0, h1⟩ := h j x hx
  exact ⟨(hb.cell (p := ⟨g, j * 2, none⟩) hg).trans h0, (hb.cell (p := ⟨g, j * 2 + 1, none⟩) hg).trans h1⟩

theorem OpRead.own {w : World} {base g n cap : Nat} {l : List POpen} (h : w.ownsRow base 58 2 (.slice (some ⟨g, 0, none⟩) n cap) l.length (opCells l)) : OpRead w g l := by
  intro j x hx
  obtain ⟨e0, e1⟩ := opCells_at l j x hx
  have hlt := (List.getElem?_eq_some_iff.1 hx).1
  obtain ⟨rfl, _⟩ : n = l.length ∧ True := by
    rcases h.2 with ⟨h2, _⟩ | ⟨g2, c2, cur, h2, _⟩
    · cases h2
    · injection h2 with _ h3; exact ⟨h3, trivial⟩
  exact ⟨(h.cellAt _ (by omega)).trans e0, (h.cellAt _ (by omega)).trans e1⟩

/-- A function tells q of a row, whatever has become of the blocks in S and of new ones. -/
def OpPredFr (S : Nat → Prop) (w0 : World) (gf : Nat) (lb : Array Value) (q : POpen → Bool) : Prop :=
  ∀ (W : World) (x : POpen), Fr S w0 W → Calls Tryz.prog gf (#[x.val] ++ lb) W fun e w' => e = .returned (.bool (q x)) ∧ Below W.heap.size W w'

/-- Where the first one is of which q holds. -/
def OpIdx (q : POpen → Bool) (l : List POpen) (r : Int) : Prop :=
  (r = -1 ∧ ∀ x ∈ l, q x = false) ∨ ∃ (k : Nat) (x : POpen), r = k ∧ l[k]? = some x ∧ q x = true ∧ ∀ y ∈ l.take k, q y = false

set_option maxHeartbeats 1000000 in
theorem indexOp_any (g cap : Nat) (l : List POpen) (gf : Nat) (lb : Array Value) (q : POpen → Bool) (w : World) (hl : l.length ≤ 1000000000) (hg : g < w.heap.size) (hc : OpRead w g l)
    (eg : ∀ args w, (callFunc gf args).run Tryz.prog w = .ok (.enter gf args) w) (hp : OpPredFr (fun _ => False) w gf lb q) :
    Calls Tryz.prog 62 #[.slice (some ⟨g, 0, none⟩) l.length cap, .func (.func gf) #[] lb] w
      fun e w' => (∃ r : Int, e = .returned (.int .i64 r) ∧ OpIdx q l r) ∧ Below w.heap.size w w' := by
  have HC := hid hc
  have HP := hid hp
  clear hc hp
  go_enter Tryz.func62, Tryz.ntmps62
  go_wp2_with fail
  go_loopw [8] (fun c wr => ∃ k : Nat, k ≤ l.length ∧ c = .int .i64 k ∧ Below w.heap.size w wr ∧ ∀ x ∈ l.take k, q x = false) (fun c _ => l.length - (intOf c).toNat)
  case atStart => exact ⟨0, by omega, rfl, Below.refl _ _, by simp⟩
  case round =>
    obtain ⟨k, hk, rfl, hbel, hall⟩ := hrel
    have HALL := hid hall
    have HB := hid hbel
    clear hall hbel
    by_cases hlt : k < l.length
    · obtain ⟨x, hx⟩ : ∃ x, l[k]? = some x := ⟨_, List.getElem?_eq_getElem hlt⟩
      obtain ⟨c0, c1⟩ := HC.out.below HB.out hg k x hx
      have hk0 : (0 : Int) ≤ (k : Int) := by omega
      have hk1 : (k : Int) < (l.length : Int) := by omega
      have hcall := HP.out wr x (Fr.of_below HB.out)
      have htk : l.take (k + 1) = l.take k ++ [x] := by rw [List.take_add_one, hx]; rfl
      have HTK := hid htk
      have HX := hid hx
      clear htk hx
      unfold POpen.val at hcall
      cases hq : q x with
      | true =>
        have HQ := hid hq
        rw [hq] at hcall
        clear hq
        go_wp2_with fail
        refine hcall.mono ?_
        rintro e w' ⟨rfl, hb'⟩
        go_wp2_with fail
        go_ret
        exact ⟨⟨k, rfl, .inr ⟨k, x, rfl, HX.out, HQ.out, HALL.out⟩⟩, bel_next HB.out hb'⟩
      | false =>
        have HQ := hid hq
        rw [hq] at hcall
        clear hq
        go_wp2_with fail
        refine hcall.mono ?_
        rintro e w' ⟨rfl, hb'⟩
        go_wp2_with fail
        go_roundw
        case rel =>
          refine ⟨k + 1, by omega, by go_num, bel_next HB.out hb', fun y hy => ?_⟩
          rw [HTK.out] at hy
          rcases List.mem_append.1 hy with hy | hy
          · exact HALL.out y hy
          · simp only [List.mem_singleton] at hy; rw [hy]; exact HQ.out
        case measure => simp [intOf]; omega
    · obtain rfl : k = l.length := by omega
      go_wp2_with fail
      go_ret
      exact ⟨⟨-1, rfl, .inl ⟨rfl, fun x hx => HALL.out x (by rw [List.take_length]; exact hx)⟩⟩, HB.out⟩

set_option maxHeartbeats 1000000 in
theorem indexOp_nil (gf : Nat) (lb : Array Value) (w : World) :
    Calls Tryz.prog 62 #[.slice none 0 0, .func (.func gf) #[] lb] w fun e w' => e = .returned (.int .i64 (-1)) ∧ w = w' := by
  go_enter Tryz.func62, Tryz.ntmps62
  go_wp2_with fail
  go_loopw [8] (fun c wr => c = .int .i64 0 ∧ wr = w) (fun _ _ => 0)
  case atStart => exact ⟨rfl, rfl⟩
  case round =>
    obtain ⟨rfl, rfl⟩ := hrel
    go_wp2_with fail
    go_ret
    exact ⟨rfl, rfl⟩

theorem Tryz.infoCloneOp : (Tryz.prog.info? 58).map (fun i => (i.zero, i.size, i.bytes)) = some (some (.agg #[.int .i64 0, .int .i64 0]), 2, 16) := by kernel_rfl

set_option maxHeartbeats 1000000 in
theorem cloneOp_any {base n : Nat} {v : Value} {xs : List Value} {w : World} (h : w.ownsRow base 58 2 v n xs) (h1 : ∀ u ∈ xs, u.oneCell' = true) (hn : n ≤ 1000000) :
    Calls Tryz.prog 42 #[v] w fun e w' => ∃ v', e = .returned v' ∧ w'.ownsRow w.heap.size 58 2 v' n xs ∧ Below w.heap.size w w' := by
  have q22 : ∀ (w : World) (a : Option Addr) (n c n' c' : Nat), (binOp .eql 54 (.slice a n c) (.slice none n' c')).run Tryz.prog w = .ok (.bool a.isNone) w := fun w a n c n' c' => Lib.run_eql_slice_nil w _ _ a n c n' c' Tryz.underlying54
  obtain ⟨i0, hi, hz0, hz1, hz2⟩ := info_parts Tryz.infoCloneOp
  rcases Joins.ownsRow_forms h with ⟨rfl, hz⟩ | ⟨g, cap, rfl⟩
  · subst hz
    have hx : xs = [] := by have := h.1; simpa using this
    subst hx
    clear h h1
    go_enter Tryz.func42, Tryz.ntmps42
    go_wp2_with fail
    go_ret
    exact ⟨_, rfl, World.ownsRow_nil _ _ _ _, Below.refl _ _⟩
  · have H := hid h
    have H1 := hid h1
    clear h h1
    go_enter Tryz.func42, Tryz.ntmps42
    go_wp2_with (at_builtin; refine wpList_append_own _ rfl _ _ 54 rfl w.heap.size 58 i0 _ 2 16 Tryz.underlying54 hi hz0 hz1 hz2 rfl (by omega) _ _ _ rfl (World.ownsRow_made w #[] 0 (Nat.le_refl _) (Nat.zero_le _) (by simp)) ⟨g, 0, none⟩ n cap xs rfl ?qc1 ?qc2 ?qc3 ?qc4 ?qc5 ?qc6 ?_)
    case qc1 => exact H.out.1
    case qc2 =>
      intro j u hj
      have hlt := (List.getElem?_eq_some_iff.1 hj).1
      rw [Addr.add_lit, Nat.zero_add]
      refine Lib.cell?_alloc_some _ ?_
      rw [H.out.cellAt j (by rw [← H.out.1]; exact hlt)]; exact hj
    case qc3 => exact H1.out
    case qc4 => unfold maxLen; omega
    case qc5 => omega
    case qc6 => simp
    intro v' w1 hown hgrow hnil
    have HO := hid hown
    have HG := hid hgrow
    clear hown hgrow hnil
    go_wp2_with fail
    go_ret
    refine ⟨v', rfl, HO.out, ?_⟩
    exact ((Below.refl _ w).alloc (Nat.le_refl _) _).grown HG.out (by simp) (by intro k hk; simp [Value.ownBlock] at hk; omega)

/-- The cells of rows. -/
def GoRead (w : World) (g : Nat) (l : List PGone) : Prop :=
  ∀ j x, l[j]? = some x → w.cell? ⟨g, j * 3, none⟩ = some (.int .i64 x.pid) ∧ w.cell? ⟨g, j * 3 + 1, none⟩ = some (.int .i64 x.first) ∧ w.cell? ⟨g, j * 3 + 2, none⟩ = some (.int .i64 x.last)

theorem GoRead.below {w w' : World} {g : Nat} {l : List PGone} (h : GoRead w g l) (hb : Below w.heap.size w w') (hg : g < w.heap.size) : GoRead w' g l := by
  intro j x hx
  obtain ⟨h0, h1, h2⟩ := h j x hx
  exact ⟨(hb.cell (p := ⟨g, j * 3, none⟩) hg).trans h0, (hb.cell (p := ⟨g, j * 3 + 1, none⟩) hg).trans h1, (hb.cell (p := ⟨g, j * 3 + 2, none⟩) hg).trans h2⟩

theorem GoRead.own {w : World} {base g n cap : Nat} {l : List PGone} (h : w.ownsRow base 111 3 (.slice (some ⟨g, 0, none⟩) n cap) l.length (goCells l)) : GoRead w g l := by
  intro j x hx
  obtain ⟨e0, e1, e2⟩ := goCells_at l j x hx
  have hlt := (List.getElem?_eq_some_iff.1 hx).1
  obtain ⟨rfl, _⟩ : n = l.length ∧ True := by
    rcases h.2 with ⟨h2, _⟩ | ⟨g2, c2, cur, h2, _⟩
    · cases h2
    · injection h2 with _ h3; exact ⟨h3, trivial⟩
  exact ⟨(h.cellAt _ (by omega)).trans e0, (h.cellAt _ (by omega)).trans e1, (h.cellAt _ (by omega)).trans e2⟩

/-- A function tells q of a row, whatever has become of the blocks in S and of new ones. -/
def GoPredFr (S : Nat → Prop) (w0 : World) (gf : Nat) (lb : Array Value) (q : PGone → Bool) : Prop :=
  ∀ (W : World) (x : PGone), Fr S w0 W → Calls Tryz.prog gf (#[x.val] ++ lb) W fun e w' => e = .returned (.bool (q x)) ∧ Below W.heap.size W w'

/-- Where the first one is of which q holds. -/
def GoIdx (q : PGone → Bool) (l : List PGone) (r : Int) : Prop :=
  (r = -1 ∧ ∀ x ∈ l, q x = false) ∨ ∃ (k : Nat) (x : PGone), r = k ∧ l[k]? = some x ∧ q x = true ∧ ∀ y ∈ l.take k, q y = false

set_option maxHeartbeats 1000000 in
theorem indexGo_any (g cap : Nat) (l : List PGone) (gf : Nat) (lb : Array Value) (q : PGone → Bool) (w : World) (hl : l.length ≤ 1000000000) (hg : g < w.heap.size) (hc : GoRead w g l)
    (eg : ∀ args w, (callFunc gf args).run Tryz.prog w = .ok (.enter gf args) w) (hp : GoPredFr (fun _ => False) w gf lb q) :
    Calls Tryz.prog 109 #[.slice (some ⟨g, 0, none⟩) l.length cap, .func (.func gf) #[] lb] w
      fun e w' => (∃ r : Int, e = .returned (.int .i64 r) ∧ GoIdx q l r) ∧ Below w.heap.size w w' := by
  have HC := hid hc
  have HP := hid hp
  clear hc hp
  go_enter Tryz.func109, Tryz.ntmps109
  go_wp2_with fail
  go_loopw [8] (fun c wr => ∃ k : Nat, k ≤ l.length ∧ c = .int .i64 k ∧ Below w.heap.size w wr ∧ ∀ x ∈ l.take k, q x = false) (fun c _ => l.length - (intOf c).toNat)
  case atStart => exact ⟨0, by omega, rfl, Below.refl _ _, by simp⟩
  case round =>
    obtain ⟨k, hk, rfl, hbel, hall⟩ := hrel
    have HALL := hid hall
    have HB := hid hbel
    clear hall hbel
    by_cases hlt : k < l.length
    · obtain ⟨x, hx⟩ : ∃ x, l[k]? = some x := ⟨_, List.getElem?_eq_getElem hlt⟩
      obtain ⟨c0, c1, c2⟩ := HC.out.below HB.out hg k x hx
      have hk0 : (0 : Int) ≤ (k : Int) := by omega
      have hk1 : (k : Int) < (l.length : Int) := by omega
      have hcall := HP.out wr x (Fr.of_below HB.out)
      have htk : l.take (k + 1) = l.take k ++ [x] := by rw [List.take_add_one, hx]; rfl
      have HTK := hid htk
      have HX := hid hx
      clear htk hx
      unfold PGone.val at hcall
      cases hq : q x with
      | true =>
        have HQ := hid hq
        rw [hq] at hcall
        clear hq
        go_wp2_with fail
        refine hcall.mono ?_
        rintro e w' ⟨rfl, hb'⟩
        go_wp2_with fail
        go_ret
        exact ⟨⟨k, rfl, .inr ⟨k, x, rfl, HX.out, HQ.out, HALL.out⟩⟩, bel_next HB.out hb'⟩
      | false =>
        have HQ := hid hq
        rw [hq] at hcall
        clear hq
        go_wp2_with fail
        refine hcall.mono ?_
        rintro e w' ⟨rfl, hb'⟩
        go_wp2_with fail
        go_roundw
        case rel =>
          refine ⟨k + 1, by omega, by go_num, bel_next HB.out hb', fun y hy => ?_⟩
          rw [HTK.out] at hy
          rcases List.mem_append.1 hy with hy | hy
          · exact HALL.out y hy
          · simp only [List.mem_singleton] at hy; rw [hy]; exact HQ.out
        case measure => simp [intOf]; omega
    · obtain rfl : k = l.length := by omega
      go_wp2_with fail
      go_ret
      exact ⟨⟨-1, rfl, .inl ⟨rfl, fun x hx => HALL.out x (by rw [List.take_length]; exact hx)⟩⟩, HB.out⟩

set_option maxHeartbeats 1000000 in
theorem indexGo_nil (gf : Nat) (lb : Array Value) (w : World) :
    Calls Tryz.prog 109 #[.slice none 0 0, .func (.func gf) #[] lb] w fun e w' => e = .returned (.int .i64 (-1)) ∧ w = w' := by
  go_enter Tryz.func109, Tryz.ntmps109
  go_wp2_with fail
  go_loopw [8] (fun c wr => c = .int .i64 0 ∧ wr = w) (fun _ _ => 0)
  case atStart => exact ⟨rfl, rfl⟩
  case round =>
    obtain ⟨rfl, rfl⟩ := hrel
    go_wp2_with fail
    go_ret
    exact ⟨rfl, rfl⟩

theorem Tryz.infoCloneGo : (Tryz.prog.info? 111).map (fun i => (i.zero, i.size, i.bytes)) = some (some (.agg #[.int .i64 0, .int .i64 0, .int .i64 0]), 3, 24) := by kernel_rfl

set_option maxHeartbeats 1000000 in
theorem cloneGo_any {base n : Nat} {v : Value} {xs : List Value} {w : World} (h : w.ownsRow base 111 3 v n xs) (h1 : ∀ u ∈ xs, u.oneCell' = true) (hn : n ≤ 1000000) :
    Calls Tryz.prog 51 #[v] w fun e w' => ∃ v', e = .returned v' ∧ w'.ownsRow w.heap.size 111 3 v' n xs ∧ Below w.heap.size w w' := by
  have q22 : ∀ (w : World) (a : Option Addr) (n c n' c' : Nat), (binOp .eql 66 (.slice a n c) (.slice none n' c')).run Tryz.prog w = .ok (.bool a.isNone) w := fun w a n c n' c' => Lib.run_eql_slice_nil w _ _ a n c n' c' Tryz.underlying66
  obtain ⟨i0, hi, hz0, hz1, hz2⟩ := info_parts Tryz.infoCloneGo
  rcases Joins.ownsRow_forms h with ⟨rfl, hz⟩ | ⟨g, cap, rfl⟩
  · subst hz
    have hx : xs = [] := by have := h.1; simpa using this
    subst hx
    clear h h1
    go_enter Tryz.func51, Tryz.ntmps51
    go_wp2_with fail
    go_ret
    exact ⟨_, rfl, World.ownsRow_nil _ _ _ _, Below.refl _ _⟩
  · have H := hid h
    have H1 := hid h1
    clear h h1
    go_enter Tryz.func51, Tryz.ntmps51
    go_wp2_with (at_builtin; refine wpList_append_own _ rfl _ _ 66 rfl w.heap.size 111 i0 _ 3 24 Tryz.underlying66 hi hz0 hz1 hz2 rfl (by omega) _ _ _ rfl (World.ownsRow_made w #[] 0 (Nat.le_refl _) (Nat.zero_le _) (by simp)) ⟨g, 0, none⟩ n cap xs rfl ?qc1 ?qc2 ?qc3 ?qc4 ?qc5 ?qc6 ?_)
    case qc1 => exact H.out.1
    case qc2 =>
      intro j u hj
      have hlt := (List.getElem?_eq_some_iff.1 hj).1
      rw [Addr.add_lit, Nat.zero_add]
      refine Lib.cell?_alloc_some _ ?_
      rw [H.out.cellAt j (by rw [← H.out.1]; exact hlt)]; exact hj
    case qc3 => exact H1.out
    case qc4 => unfold maxLen; omega
    case qc5 => omega
    case qc6 => simp
    intro v' w1 hown hgrow hnil
    have HO := hid hown
    have HG := hid hgrow
    clear hown hgrow hnil
    go_wp2_with fail
    go_ret
    refine ⟨v', rfl, HO.out, ?_⟩
    exact ((Below.refl _ w).alloc (Nat.le_refl _) _).grown HG.out (by simp) (by intro k hk; simp [Value.ownBlock] at hk; omega)

end Go.Proofs.YtgjkjkeeblbjlaaGreatDoor

namespace Go.Proofs.YtgjkjkeeblbjlaaGreatDoor
open Go.RowKit

set_option maxHeartbeats 1000000 in
theorem pfind1_any {b : Nat} {p : Int} {w0 : World} {S : Nat → Prop} (hb : Blk w0 b #[.int .i64 p] 3) (hS : ¬ S b) :
    OpPredFr S w0 63 #[.pointer (some ⟨b, 0, none⟩)] (fun x => decide (x.pid = p)) := by
  intro W x hW
  have hbx := hb.fr hW hS
  have c0 := hbx.cell (i := 0) (v := .int .i64 p) rfl
  have hlt := hbx.lt
  have hne : b ≠ W.heap.size := by omega
  have HB := hid (bel_alloc (Below.refl W.heap.size W) (.cells #[.int .i64 x.pid, .int .i64 x.first] 58))
  unfold POpen.val
  show Calls Tryz.prog 63 #[.agg #[.int .i64 x.pid, .int .i64 x.first], .pointer (some ⟨b, 0, none⟩)] W fun e w' => e = .returned (.bool (decide (x.pid = p))) ∧ Below W.heap.size W w'
  clear hb hbx hW
  by_cases h : x.pid = p
  · rw [decide_eq_true h]
    have d1 : decide (x.pid = p) = true := decide_eq_true h
    have d2 : (x.pid == p) = true := by simpa using h
    clear h
    go_enter Tryz.func63, Tryz.ntmps63
    go_wp2_with fail
    go_ret
    exact ⟨rfl, HB.out⟩
  · rw [decide_eq_false h]
    have d1 : decide (x.pid = p) = false := decide_eq_false h
    have d2 : (x.pid == p) = false := by simpa using h
    clear h
    go_enter Tryz.func63, Tryz.ntmps63
    go_wp2_with fail
    go_ret
    exact ⟨rfl, HB.out⟩

/-- Where the open transaction of a producer stands. -/
def FindO (l : List POpen) (pid : Int) (r : Int) : Prop :=
  (r = -1 ∧ openOf l pid = none) ∨ ∃ (k : Nat) (o : POpen), r = k ∧ l[k]? = some o ∧ o.pid = pid ∧ openOf l pid = some o ∧ openCut l pid = l.eraseIdx k

theorem openOf_none {l : List POpen} {pid : Int} (h : ∀ y ∈ l, y.pid ≠ pid) : openOf l pid = none := by
  unfold openOf
  rw [List.find?_eq_none]
  intro y hy
  simpa using h y hy

theorem openOf_at : ∀ {l : List POpen} {i : Nat} {p : POpen} {pid : Int}, l[i]? = some p → p.pid = pid → (∀ y ∈ l.take i, y.pid ≠ pid) → openOf l pid = some p ∧ openCut l pid = l.eraseIdx i
  | [], i, p, pid, h, _, _ => by simp at h
  | x :: l, 0, p, pid, h, e, _ => by
    simp at h
    subst h
    unfold openOf
    rw [List.find?_cons_of_pos (by simpa using e), openCut, if_pos e]
    exact ⟨rfl, rfl⟩
  | x :: l, i + 1, p, pid, h, e, hn => by
    have h1 := hn x (by simp)
    obtain ⟨i1, i2⟩ := openOf_at (l := l) (i := i) (p := p) (pid := pid) (by simpa using h) e (fun y hy => hn y (by simp [hy]))
    unfold openOf at i1 ⊢
    rw [List.find?_cons_of_neg (by simpa using h1), openCut, if_neg h1, i2]
    exact ⟨i1, rfl⟩

section
variable {p l : Nat} {w : World} {S : Nat → Prop} {s : PPart}

set_option maxHeartbeats 1000000 in
theorem paFind_any (pid : Int) (h : (paThing p l).held w S s) (hl : s.opens.length ≤ 1000000) :
    Calls Tryz.prog 41 #[.pointer (some ⟨p, 0, none⟩), .int .i64 pid] w fun e w' => (∃ r, e = .returned (.int .i64 r) ∧ FindO s.opens pid r) ∧ Below w.heap.size w w' := by
  obtain ⟨pv, ov, gv, hr⟩ := PaAt.rep h
  have hb1 : Below w.heap.size w (w.alloc (.cells #[.int .i64 pid] 3)) := bel_alloc (Below.refl _ _) _
  have hk1 := Blk.new w #[.int .i64 pid] 3
  have hh1 := hr.hdr.below' hb1
  have c2 := hh1.cell (i := 2) (v := ov) rfl
  have HO := hid hr.opens
  have HB1 := hid hb1
  have HK1 := hid hk1
  have e1 : ∀ args w, (callFunc 63 args).run Tryz.prog w = .ok (.enter 63 args) w := enters_of Tryz.func63 (by kernel_rfl) rfl
  clear h hr hb1 hk1 hh1
  rcases Joins.ownsRow_forms HO.out with ⟨rfl, hz⟩ | ⟨g, cap, rfl⟩
  · have hln : s.opens = [] := List.length_eq_zero_iff.1 hz
    have HLN := hid hln
    clear hz hln e1
    go_enter Tryz.func41, Tryz.ntmps41
    go_wp2_with fail
    refine (indexOp_nil _ _ _).mono ?_
    rintro e w2 ⟨rfl, rfl⟩
    go_wp2_with fail
    go_ret
    exact ⟨⟨-1, rfl, .inl ⟨rfl, by rw [HLN.out]; rfl⟩⟩, HB1.out⟩
  · have hrow1 := HO.out.alloc (.cells #[.int .i64 pid] 3)
    have hg1 := (hrow1.lt g rfl).2
    have HI1 := hid (indexOp_any g cap s.opens _ _ _ _ (by omega) hg1 (OpRead.own hrow1) e1 (pfind1_any (S := fun _ => False) HK1.out (fun h => h)))
    clear hrow1 hg1 e1
    go_enter Tryz.func41, Tryz.ntmps41
    go_wp2_with fail
    refine HI1.out.mono ?_
    rintro e w2 ⟨⟨r, rfl, hidx⟩, hb2⟩
    have HB2 := hid (bel_next HB1.out hb2)
    have HF : Hid (FindO s.opens pid r) := hid (by
      rcases hidx with ⟨rfl, hall⟩ | ⟨k, x, rfl, hx, hq, hpre⟩
      · exact .inl ⟨rfl, openOf_none (fun y hy => of_decide_eq_false (hall y hy))⟩
      · have hxp : x.pid = pid := of_decide_eq_true hq
        obtain ⟨i1, i2⟩ := openOf_at hx hxp (fun y hy => of_decide_eq_false (hpre y hy))
        exact .inr ⟨k, x, rfl, hx, hxp, i1, i2⟩)
    clear hidx hb2
    go_wp2_with fail
    go_ret
    exact ⟨⟨r, rfl, HF.out⟩, HB2.out⟩

variable {d : Nat} {SL SD : Nat → Prop} {L : PLog} {D : PDisk}

set_option maxHeartbeats 1000000 in
theorem paEnd_any (h : Trio (paThing p l) w l d S SL SD s L D) : Calls Tryz.prog 11 #[.pointer (some ⟨p, 0, none⟩)] w fun e w' => e = .returned (.int .i64 L.next) ∧ w = w' := by
  obtain ⟨pv, ov, gv, hr⟩ := PaAt.rep h.obj
  have c0 := hr.hdr.cell (i := 0) (v := .pointer (some ⟨l, 0, none⟩)) rfl
  have HN := hid (paNone_any h.obj)
  have HX := hid (next_any h.log)
  unfold ptr at HX
  clear hr h
  go_enter Tryz.func11, Tryz.ntmps11
  go_wp2_with fail
  refine HN.out.mono ?_
  rintro e w' ⟨rfl, rfl⟩
  go_wp2_with fail
  refine HX.out.mono ?_
  rintro e w' ⟨rfl, rfl⟩
  go_wp2_with fail
  go_ret
  exact ⟨rfl, rfl⟩

set_option maxHeartbeats 1000000 in
theorem paStable_any (h : Trio (paThing p l) w l d S SL SD s L D) : Calls Tryz.prog 13 #[.pointer (some ⟨p, 0, none⟩)] w fun e w' => e = .returned (.int .i64 (s.stable L)) ∧ w = w' := by
  obtain ⟨pv, ov, gv, hr⟩ := PaAt.rep h.obj
  have c0 := hr.hdr.cell (i := 0) (v := .pointer (some ⟨l, 0, none⟩)) rfl
  have c2 := hr.hdr.cell (i := 2) (v := ov) rfl
  have HN := hid (paNone_any h.obj)
  have HX := hid (next_any h.log)
  unfold ptr at HX
  have HO := hid hr.opens
  clear hr h
  unfold PPart.stable
  generalize s.opens = ol at HO ⊢
  cases ol with
  | nil =>
    obtain ⟨va, vc, rfl⟩ := row_slice HO.out
    have hz : (([] : List POpen).length : Int) = 0 := rfl
    go_enter Tryz.func13, Tryz.ntmps13
    go_wp2_with fail
    refine HN.out.mono ?_
    rintro e w' ⟨rfl, rfl⟩
    go_wp2_with fail
    refine HX.out.mono ?_
    rintro e w' ⟨rfl, rfl⟩
    go_wp2_with fail
    go_ret
    exact ⟨rfl, rfl⟩
  | cons o ol =>
    obtain ⟨g, cap, rfl⟩ : ∃ g cap, ov = .slice (some ⟨g, 0, none⟩) (o :: ol).length cap := by
      rcases Joins.ownsRow_forms HO.out with ⟨_, hz⟩ | ⟨g, cap, e9⟩
      · simp at hz
      · exact ⟨g, cap, e9⟩
    obtain ⟨_, k1⟩ := OpRead.own HO.out 0 o rfl
    have hz1 : decide ((0 : Int) < ((o :: ol).length : Int)) = true := decide_eq_true (by simp)
    have hz2 : decide (0 < (o :: ol).length) = true := by simp
    have hz3 : (0 : Int) < ((o :: ol).length : Int) := by simp
    generalize (o :: ol).length = n at hz1 hz2 hz3 c2
    simp only [Nat.zero_mul, Nat.zero_add] at k1
    clear HX HO
    go_enter Tryz.func13, Tryz.ntmps13
    go_wp2_with fail
    refine HN.out.mono ?_
    rintro e w' ⟨rfl, rfl⟩
    go_wp2_with fail
    go_ret
    exact ⟨rfl, rfl⟩

set_option maxHeartbeats 1000000 in
theorem paOpens_any (h : (paThing p l).held w S s) (hl : s.opens.length ≤ 1000000) : Calls Tryz.prog 20 #[.pointer (some ⟨p, 0, none⟩)] w fun e w' => ∃ v, e = .returned v ∧ w'.ownsRow w.heap.size 58 2 v s.opens.length (opCells s.opens) ∧ Below w.heap.size w w' := by
  obtain ⟨pv, ov, gv, hr⟩ := PaAt.rep h
  have c2 := hr.hdr.cell (i := 2) (v := ov) rfl
  have HN := hid (paNone_any h)
  have HC := hid (cloneOp_any hr.opens (op_one s.opens) (by omega))
  clear hr h
  go_enter Tryz.func20, Tryz.ntmps20
  go_wp2_with fail
  refine HN.out.mono ?_
  rintro e w' ⟨rfl, rfl⟩
  go_wp2_with fail
  refine HC.out.mono ?_
  rintro e w2 ⟨v2, rfl, hrow, hb⟩
  have HR := hid (And.intro hrow hb)
  obtain ⟨va, vc, rfl⟩ := row_slice hrow
  clear hrow hb HC
  go_wp2_with fail
  go_ret
  exact ⟨_, rfl, HR.out.1, HR.out.2⟩

set_option maxHeartbeats 1000000 in
theorem paProds_any (h : (paThing p l).held w S s) (hl : s.prods.length ≤ 1000000) : Calls Tryz.prog 24 #[.pointer (some ⟨p, 0, none⟩)] w fun e w' => ∃ v, e = .returned v ∧ w'.ownsRow w.heap.size 91 5 v s.prods.length (prCells s.prods) ∧ Below w.heap.size w w' := by
  obtain ⟨pv, ov, gv, hr⟩ := PaAt.rep h
  have c1 := hr.hdr.cell (i := 1) (v := pv) rfl
  have HN := hid (paNone_any h)
  have HC := hid (clonePr_any hr.prods (pr_one s.prods) (by omega))
  clear hr h
  go_enter Tryz.func24, Tryz.ntmps24
  go_wp2_with fail
  refine HN.out.mono ?_
  rintro e w' ⟨rfl, rfl⟩
  go_wp2_with fail
  refine HC.out.mono ?_
  rintro e w2 ⟨v2, rfl, hrow, hb⟩
  have HR := hid (And.intro hrow hb)
  obtain ⟨va, vc, rfl⟩ := row_slice hrow
  clear hrow hb HC
  go_wp2_with fail
  go_ret
  exact ⟨_, rfl, HR.out.1, HR.out.2⟩

set_option maxHeartbeats 1000000 in
theorem paGones_any (h : (paThing p l).held w S s) (hl : s.gones.length ≤ 1000000) : Calls Tryz.prog 25 #[.pointer (some ⟨p, 0, none⟩)] w fun e w' => ∃ v, e = .returned v ∧ w'.ownsRow w.heap.size 111 3 v s.gones.length (goCells s.gones) ∧ Below w.heap.size w w' := by
  obtain ⟨pv, ov, gv, hr⟩ := PaAt.rep h
  have c3 := hr.hdr.cell (i := 3) (v := gv) rfl
  have HN := hid (paNone_any h)
  have HC := hid (cloneGo_any hr.gones (go_one s.gones) (by omega))
  clear hr h
  go_enter Tryz.func25, Tryz.ntmps25
  go_wp2_with fail
  refine HN.out.mono ?_
  rintro e w' ⟨rfl, rfl⟩
  go_wp2_with fail
  refine HC.out.mono ?_
  rintro e w2 ⟨v2, rfl, hrow, hb⟩
  have HR := hid (And.intro hrow hb)
  obtain ⟨va, vc, rfl⟩ := row_slice hrow
  clear hrow hb HC
  go_wp2_with fail
  go_ret
  exact ⟨_, rfl, HR.out.1, HR.out.2⟩
end
end Go.Proofs.YtgjkjkeeblbjlaaGreatDoor

namespace Go.Proofs.YtgjkjkeeblbjlaaGreatDoor
open Go.RowKit

set_option maxHeartbeats 2000000 in
theorem pout1_any {b c : Nat} {p z : Int} {w0 : World} {S : Nat → Prop} (hb : Blk w0 b #[.int .i64 p] 3) (hc : Blk w0 c #[.int .i64 z] 3) (hS : ¬ S b) (hS2 : ¬ S c) :
    GoPredFr S w0 80 #[.pointer (some ⟨b, 0, none⟩), .pointer (some ⟨c, 0, none⟩)] (fun g => decide (g.pid = p) && (decide (g.first ≤ z) && decide (z < g.last))) := by
  intro W x hW
  have hbx := hb.fr hW hS
  have hcx := hc.fr hW hS2
  have c0 := hbx.cell (i := 0) (v := .int .i64 p) rfl
  have d0 := hcx.cell (i := 0) (v := .int .i64 z) rfl
  have hlt := hbx.lt
  have hlt2 := hcx.lt
  have hne : b ≠ W.heap.size := by omega
  have hne2 : c ≠ W.heap.size := by omega
  have HB := hid (bel_alloc (Below.refl W.heap.size W) (.cells #[.int .i64 x.pid, .int .i64 x.first, .int .i64 x.last] 111))
  unfold PGone.val
  show Calls Tryz.prog 80 #[.agg #[.int .i64 x.pid, .int .i64 x.first, .int .i64 x.last], .pointer (some ⟨b, 0, none⟩), .pointer (some ⟨c, 0, none⟩)] W fun e w' => e = .returned (.bool (decide (x.pid = p) && (decide (x.first ≤ z) && decide (z < x.last)))) ∧ Below W.heap.size W w'
  clear hb hbx hW hc hcx
  by_cases h : x.pid = p
  · rw [decide_eq_true h]
    have d1 : decide (x.pid = p) = true := decide_eq_true h
    have d2 : (x.pid == p) = true := by simpa using h
    clear h
    by_cases h2 : x.first ≤ z
    · rw [decide_eq_true h2]
      have d3 : decide (x.first ≤ z) = true := decide_eq_true h2
      clear h2
      by_cases h3 : z < x.last
      · rw [decide_eq_true h3]
        have d4 : decide (z < x.last) = true := decide_eq_true h3
        clear h3
        go_enter Tryz.func80, Tryz.ntmps80
        go_wp2_with fail
        go_ret
        exact ⟨rfl, HB.out⟩
      · rw [decide_eq_false h3]
        have d4 : decide (z < x.last) = false := decide_eq_false h3
        clear h3
        go_enter Tryz.func80, Tryz.ntmps80
        go_wp2_with fail
        go_ret
        exact ⟨rfl, HB.out⟩
    · rw [decide_eq_false h2]
      have d3 : decide (x.first ≤ z) = false := decide_eq_false h2
      clear h2
      go_enter Tryz.func80, Tryz.ntmps80
      go_wp2_with fail
      go_ret
      exact ⟨rfl, HB.out⟩
  · rw [decide_eq_false h]
    have d1 : decide (x.pid = p) = false := decide_eq_false h
    have d2 : (x.pid == p) = false := by simpa using h
    clear h
    go_enter Tryz.func80, Tryz.ntmps80
    go_wp2_with fail
    go_ret
    exact ⟨rfl, HB.out⟩

theorem any_of_idx {q : PGone → Bool} {l : List PGone} {r : Int} (h : GoIdx q l r) : (l.any q = true ↔ 0 ≤ r) := by
  rcases h with ⟨rfl, hall⟩ | ⟨k, x, rfl, hx, hq, _⟩
  · constructor
    · intro h9
      obtain ⟨x, hx, hq⟩ := List.any_eq_true.1 h9
      rw [hall x hx] at hq
      cases hq
    · intro h9
      exact absurd h9 (by decide)
  · exact ⟨fun _ => by omega, fun _ => List.any_eq_true.2 ⟨x, List.mem_of_getElem? hx, hq⟩⟩

section
variable {p l : Nat} {w : World} {S : Nat → Prop} {s : PPart}

set_option maxHeartbeats 2000000 in
theorem paOut_any (pid z : Int) (h : (paThing p l).held w S s) (hl : s.gones.length ≤ 1000000) :
    Calls Tryz.prog 49 #[.pointer (some ⟨p, 0, none⟩), .int .i64 pid, .int .i64 z] w fun e w' => e = .returned (.bool (s.out pid z)) ∧ Below w.heap.size w w' := by
  obtain ⟨pv, ov, gv, hr⟩ := PaAt.rep h
  have hb1 : Below w.heap.size w (w.alloc (.cells #[.int .i64 pid] 3)) := bel_alloc (Below.refl _ _) _
  have hb2 := bel_alloc hb1 (.cells #[.int .i64 z] 3)
  have hk1 := (Blk.new w #[.int .i64 pid] 3).alloc (.cells #[.int .i64 z] 3)
  have hk2 : Blk ((w.alloc (.cells #[.int .i64 pid] 3)).alloc (.cells #[.int .i64 z] 3)) (w.heap.size + 1) #[.int .i64 z] 3 := blk_next _ _ _ _
  have hh1 := hr.hdr.below' hb2
  have c3 := hh1.cell (i := 3) (v := gv) rfl
  have HO := hid hr.gones
  have HB1 := hid hb2
  have HK1 := hid hk1
  have HK2 := hid hk2
  have e1 : ∀ args w, (callFunc 80 args).run Tryz.prog w = .ok (.enter 80 args) w := enters_of Tryz.func80 (by kernel_rfl) rfl
  unfold PPart.out
  obtain ⟨q, hq⟩ : ∃ q : Bool, (s.gones.any fun g => decide (g.pid = pid) && (decide (g.first ≤ z) && decide (z < g.last))) = q := ⟨_, rfl⟩
  rw [hq]
  have HQ := hid hq
  clear h hr hb1 hb2 hk1 hk2 hh1 hq
  have hcf : ∀ (v : Value), v = gv → Calls Tryz.prog 79 #[v, .func (.func 80) #[] #[.pointer (some ⟨w.heap.size, 0, none⟩), .pointer (some ⟨w.heap.size + 1, 0, none⟩)]] ((w.alloc (.cells #[.int .i64 pid] 3)).alloc (.cells #[.int .i64 z] 3)) fun e w' => e = .returned (.bool q) ∧ Below ((w.alloc (.cells #[.int .i64 pid] 3)).alloc (.cells #[.int .i64 z] 3)).heap.size ((w.alloc (.cells #[.int .i64 pid] 3)).alloc (.cells #[.int .i64 z] 3)) w' := by
    rintro v rfl
    have hrow1 := (HO.out.alloc (.cells #[.int .i64 pid] 3)).alloc (.cells #[.int .i64 z] 3)
    have HR1 := hid hrow1
    clear hrow1 c3
    generalize (w.alloc (.cells #[.int .i64 pid] 3)).alloc (.cells #[.int .i64 z] 3) = w2 at HB1 HK1 HK2 HR1 ⊢
    rcases Joins.ownsRow_forms HR1.out with ⟨rfl, hz⟩ | ⟨g, cap, rfl⟩
    · have hln : s.gones = [] := List.length_eq_zero_iff.1 hz
      obtain rfl : false = q := by rw [← HQ.out, hln]; rfl
      clear hz e1 hln
      go_enter Tryz.func79, Tryz.ntmps79
      go_wp2_with fail
      refine (indexGo_nil _ _ _).mono ?_
      rintro e w3 ⟨rfl, rfl⟩
      go_wp2_with fail
      go_ret
      exact ⟨rfl, Below.refl _ _⟩
    · have hg1 := (HR1.out.lt g rfl).2
      have HI1 := hid (indexGo_any g cap s.gones _ _ _ _ (by omega) hg1 (GoRead.own HR1.out) e1 (pout1_any (S := fun _ => False) HK1.out HK2.out (fun h => h) (fun h => h)))
      clear hg1 e1
      go_enter Tryz.func79, Tryz.ntmps79
      go_wp2_with fail
      refine HI1.out.mono ?_
      rintro e w3 ⟨⟨r, rfl, hidx⟩, hb3⟩
      have hio := any_of_idx hidx
      have HB3 := hid hb3
      have hq2 : decide (0 ≤ r) = q := by
        rw [← HQ.out]
        by_cases h9 : 0 ≤ r
        · rw [decide_eq_true h9, hio.2 h9]
        · rw [decide_eq_false h9]
          cases h8 : (s.gones.any fun g => decide (g.pid = pid) && (decide (g.first ≤ z) && decide (z < g.last))) with
          | true => exact absurd (hio.1 h8) h9
          | false => rfl
      clear hio hidx hb3 HI1
      go_wp2_with fail
      go_ret
      exact ⟨by rw [← hq2]; rfl, HB3.out⟩
  have HCF := hid (hcf gv rfl)
  clear hcf e1 HK1 HK2
  go_enter Tryz.func49, Tryz.ntmps49
  go_wp2_with fail
  refine HCF.out.mono ?_
  rintro e w3 ⟨rfl, hb3⟩
  have HB3 := hid (bel_next HB1.out hb3)
  clear hb3
  go_wp2_with fail
  go_ret
  exact ⟨rfl, HB3.out⟩
end
end Go.Proofs.YtgjkjkeeblbjlaaGreatDoor

namespace Go.Proofs.YtgjkjkeeblbjlaaGreatDoor
open Go.RowKit

section
variable {ω : Type} {X : Thing ω} {w w1 w2 : World} {S : Nat → Prop} {O O1 O2 : ω}

theorem Thing.to_trans (h : X.to w w1 S O1) (h2 : ∀ S1, X.held w1 S1 O1 → X.to w1 w2 S1 O2) : X.to w w2 S O2 := by
  obtain ⟨S1, a1, f1, s1⟩ := h
  obtain ⟨S2, a2, f2, s2⟩ := h2 S1 a1
  have hsz := f1.size
  refine ⟨S2, a2, ⟨f2.os.trans f1.os, f2.tape.trans f1.tape, f2.output.trans f1.output, Nat.le_trans f1.size f2.size, fun k hk hn => ?_⟩, fun k hk => ?_⟩
  · refine (f2.block k (by omega) (fun h => ?_)).trans (f1.block k hk hn)
    exact (s1 k h).elim hn (by omega)
  · rcases s2 k hk with h | h
    · exact s1 k h
    · exact .inr (by omega)

theorem Thing.to_then (h : X.to w w1 S O1) (hb : Below w1.heap.size w1 w2) : X.to w w2 S O1 := Thing.to_trans h (fun _ h1 => Thing.to_of_below h1 hb)

theorem Thing.not {b : Nat} {c : Array Value} {T : TypeId} (h : X.held w S O) (hb : Blk w b c T) (h1 : T ∉ X.types) : ¬ S b := fun h9 => by
  obtain ⟨c2, T2, h3, h4⟩ := X.kind h h9
  have h5 := (hb.inj h3).2
  subst h5
  exact h1 h4

theorem Thing.to_blk {b : Nat} {c : Array Value} {T : TypeId} (h : X.held w S O) (hto : X.to w w1 S O1) (hb : Blk w b c T) (h1 : T ∉ X.types) : Blk w1 b c T := by
  obtain ⟨S1, a1, f1, _⟩ := hto
  exact hb.fr f1 (Thing.not h hb h1)

theorem Thing.to_row {base : Nat} {e : TypeId} {size : Nat} {v : Value} {n : Nat} {xs : List Value} (h : X.held w S O) (hto : X.to w w1 S O1) (hr : w.ownsRow base e size v n xs) (h1 : e ∉ X.types) : w1.ownsRow base e size v n xs := by
  obtain ⟨S1, a1, f1, _⟩ := hto
  refine row_fr hr f1 (fun k hk => ?_)
  obtain ⟨c, hc⟩ := row_blk8 hr hk
  exact Thing.not h hc h1

/-- A thing turned, its blocks named. -/
structure TTo {ω : Type} (X : Thing ω) (w w1 : World) (S S1 : Nat → Prop) (O1 : ω) : Prop where
  held : X.held w1 S1 O1
  fr : Fr S w w1
  s : ∀ k, S1 k → S k ∨ w.heap.size ≤ k

theorem Thing.to_open (h : X.to w w1 S O1) : ∃ S1, TTo X w w1 S S1 O1 := by
  obtain ⟨S1, a, f, s⟩ := h
  exact ⟨S1, a, f, s⟩
theorem TTo.to {S1 : Nat → Prop} (h : TTo X w w1 S S1 O1) : X.to w w1 S O1 := ⟨S1, h.held, h.fr, h.s⟩
theorem TTo.below {S1 : Nat → Prop} (h : TTo X w w1 S S1 O1) (hb : Below w1.heap.size w1 w2) : TTo X w w2 S S1 O1 := ⟨Thing.below h.held hb, h.fr.below hb, h.s⟩
theorem TTo.next {S1 : Nat → Prop} (h : TTo X w w1 S S1 O1) (h2 : X.to w1 w2 S1 O2) : X.to w w2 S O2 := by
  obtain ⟨S2, a2, f2, s2⟩ := h2
  have f1 := h.fr
  have hsz := f1.size
  refine ⟨S2, a2, ⟨f2.os.trans f1.os, f2.tape.trans f1.tape, f2.output.trans f1.output, Nat.le_trans f1.size f2.size, fun k hk hn => ?_⟩, fun k hk => ?_⟩
  · refine (f2.block k (by omega) (fun h9 => ?_)).trans (f1.block k hk hn)
    exact (h.s k h9).elim hn (by omega)
  · rcases s2 k hk with h9 | h9
    · exact h.s k h9
    · exact .inr (by omega)
end

section
variable {w w7 : World} {p l : Nat} {S : Nat → Prop} {pv ov gv v : Value} {s : PPart} {B : Nat}

theorem row_two {w : World} {b1 b2 : Nat} {e1 e2 : TypeId} {s1 s2 n1 n2 : Nat} {v1 v2 : Value} {x1 x2 : List Value} (h1 : w.ownsRow b1 e1 s1 v1 n1 x1) (h2 : w.ownsRow b2 e2 s2 v2 n2 x2) (hne : e1 ≠ e2) {k : Nat} (hk : v1.ownBlock = some k) : ¬ v2.ownBlock = some k := by
  intro hk2
  obtain ⟨c, hc⟩ := row_blk8 h1 hk
  obtain ⟨c2, hc2⟩ := row_blk8 h2 hk2
  exact hne (hc.inj hc2).2

theorem PaRep.opens_to (h : PaRep w p l pv ov gv s) (hS : ∀ k, S k ↔ (k = p ∨ pv.ownBlock = some k ∨ ov.ownBlock = some k ∨ gv.ownBlock = some k)) (hf : Fr (fun k => ov.ownBlock = some k) w w7) {l1 : List POpen} {n : Nat} (hn : n = l1.length)
    (hr : w7.ownsRow B 58 2 v n (opCells l1)) (hk : ∀ k, v.ownBlock = some k → ov.ownBlock = some k ∨ w.heap.size ≤ k) : (paThing p l).to w (w7.setCell ⟨p, 2, none⟩ v) S { s with opens := l1 } := by
  subst hn
  have hpo : ¬ ov.ownBlock = some p := own_not h.opens h.hdr (by decide)
  have hp7 : ¬ v.ownBlock = some p := own_not hr (h.hdr.fr hf hpo) (by decide)
  have hset : Fr (fun k => k = p) w7 (w7.setCell ⟨p, 2, none⟩ v) := (Fr.refl (fun k => k = p) w7).setCell (p := ⟨p, 2, none⟩) (.inl rfl) _
  have hpp : ∀ k, pv.ownBlock = some k → ¬ k = p := by rintro k hk rfl; exact own_not h.prods h.hdr (by decide) hk
  have hgp : ∀ k, gv.ownBlock = some k → ¬ k = p := by rintro k hk rfl; exact own_not h.gones h.hdr (by decide) hk
  refine ⟨fun k => k = p ∨ pv.ownBlock = some k ∨ v.ownBlock = some k ∨ gv.ownBlock = some k, ⟨pv, v, gv, ⟨?_, ?_, ?_, ?_⟩, fun _ => Iff.rfl⟩, ?_, ?_⟩
  · have h9 := (h.hdr.fr hf hpo).set 2 v
    simpa using h9
  · exact row_fr (row_fr h.prods hf (fun k h1 => row_two h.prods h.opens (by decide) h1)) hset hpp
  · exact row_fr (own_base hr (Nat.zero_le _)) hset (by rintro k h1 rfl; exact hp7 h1)
  · exact row_fr (row_fr h.gones hf (fun k h1 => row_two h.gones h.opens (by decide) h1)) hset hgp
  · have h1 : Fr (fun k => k = p ∨ ov.ownBlock = some k) w (w7.setCell ⟨p, 2, none⟩ v) := (hf.mono fun k _ hk => .inr hk).setCell (p := ⟨p, 2, none⟩) (.inl (.inl rfl)) _
    exact h1.mono fun k _ hk => (hS k).2 (hk.elim .inl (fun h9 => .inr (.inr (.inl h9))))
  · intro k hk9
    rcases hk9 with h9 | h9 | h9 | h9
    · exact .inl ((hS k).2 (.inl h9))
    · exact .inl ((hS k).2 (.inr (.inl h9)))
    · exact (hk k h9).imp (fun h8 => (hS k).2 (.inr (.inr (.inl h8)))) id
    · exact .inl ((hS k).2 (.inr (.inr (.inr h9))))

theorem PaRep.gones_to (h : PaRep w p l pv ov gv s) (hS : ∀ k, S k ↔ (k = p ∨ pv.ownBlock = some k ∨ ov.ownBlock = some k ∨ gv.ownBlock = some k)) (hf : Fr (fun k => gv.ownBlock = some k) w w7) {l1 : List PGone} {n : Nat} (hn : n = l1.length)
    (hr : w7.ownsRow B 111 3 v n (goCells l1)) (hk : ∀ k, v.ownBlock = some k → gv.ownBlock = some k ∨ w.heap.size ≤ k) : (paThing p l).to w (w7.setCell ⟨p, 3, none⟩ v) S { s with gones := l1 } := by
  subst hn
  have hpo : ¬ gv.ownBlock = some p := own_not h.gones h.hdr (by decide)
  have hp7 : ¬ v.ownBlock = some p := own_not hr (h.hdr.fr hf hpo) (by decide)
  have hset : Fr (fun k => k = p) w7 (w7.setCell ⟨p, 3, none⟩ v) := (Fr.refl (fun k => k = p) w7).setCell (p := ⟨p, 3, none⟩) (.inl rfl) _
  have hpp : ∀ k, pv.ownBlock = some k → ¬ k = p := by rintro k hk rfl; exact own_not h.prods h.hdr (by decide) hk
  have hgp : ∀ k, ov.ownBlock = some k → ¬ k = p := by rintro k hk rfl; exact own_not h.opens h.hdr (by decide) hk
  refine ⟨fun k => k = p ∨ pv.ownBlock = some k ∨ ov.ownBlock = some k ∨ v.ownBlock = some k, ⟨pv, ov, v, ⟨?_, ?_, ?_, ?_⟩, fun _ => Iff.rfl⟩, ?_, ?_⟩
  · have h9 := (h.hdr.fr hf hpo).set 3 v
    simpa using h9
  · exact row_fr (row_fr h.prods hf (fun k h1 => row_two h.prods h.gones (by decide) h1)) hset hpp
  · exact row_fr (row_fr h.opens hf (fun k h1 => row_two h.opens h.gones (by decide) h1)) hset hgp
  · exact row_fr (own_base hr (Nat.zero_le _)) hset (by rintro k h1 rfl; exact hp7 h1)
  · have h1 : Fr (fun k => k = p ∨ gv.ownBlock = some k) w (w7.setCell ⟨p, 3, none⟩ v) := (hf.mono fun k _ hk => .inr hk).setCell (p := ⟨p, 3, none⟩) (.inl (.inl rfl)) _
    exact h1.mono fun k _ hk => (hS k).2 (hk.elim .inl (fun h9 => .inr (.inr (.inr h9))))
  · intro k hk9
    rcases hk9 with h9 | h9 | h9 | h9
    · exact .inl ((hS k).2 (.inl h9))
    · exact .inl ((hS k).2 (.inr (.inl h9)))
    · exact .inl ((hS k).2 (.inr (.inr (.inl h9))))
    · exact (hk k h9).imp (fun h8 => (hS k).2 (.inr (.inr (.inr h8)))) id

theorem PaRep.prods_to (h : PaRep w p l pv ov gv s) (hS : ∀ k, S k ↔ (k = p ∨ pv.ownBlock = some k ∨ ov.ownBlock = some k ∨ gv.ownBlock = some k)) (hb : Below w.heap.size w w7) {l1 : List PProd}
    (hr : w7.ownsRow B 91 5 v l1.length (prCells l1)) (hk : ∀ k, v.ownBlock = some k → w.heap.size ≤ k) : (paThing p l).to w (w7.setCell ⟨p, 1, none⟩ v) S { s with prods := l1 } := by
  have hf : Fr (fun _ => False) w w7 := Fr.of_below hb
  have hp7 : ¬ v.ownBlock = some p := own_not hr (h.hdr.fr hf (fun h9 => h9)) (by decide)
  have hset : Fr (fun k => k = p) w7 (w7.setCell ⟨p, 1, none⟩ v) := (Fr.refl (fun k => k = p) w7).setCell (p := ⟨p, 1, none⟩) (.inl rfl) _
  have hop : ∀ k, ov.ownBlock = some k → ¬ k = p := by rintro k hk rfl; exact own_not h.opens h.hdr (by decide) hk
  have hgp : ∀ k, gv.ownBlock = some k → ¬ k = p := by rintro k hk rfl; exact own_not h.gones h.hdr (by decide) hk
  refine ⟨fun k => k = p ∨ v.ownBlock = some k ∨ ov.ownBlock = some k ∨ gv.ownBlock = some k, ⟨v, ov, gv, ⟨?_, ?_, ?_, ?_⟩, fun _ => Iff.rfl⟩, ?_, ?_⟩
  · have h9 := (h.hdr.fr hf (fun h9 => h9)).set 1 v
    simpa using h9
  · exact row_fr (own_base hr (Nat.zero_le _)) hset (by rintro k h1 rfl; exact hp7 h1)
  · exact row_fr (row_fr h.opens hf (fun k _ h9 => h9)) hset hop
  · exact row_fr (row_fr h.gones hf (fun k _ h9 => h9)) hset hgp
  · have h1 : Fr (fun k => k = p) w (w7.setCell ⟨p, 1, none⟩ v) := Fr.setCell (S := fun k => k = p) (hf.mono fun k _ hk => hk.elim) (p := ⟨p, 1, none⟩) (.inl rfl) _
    exact h1.mono fun k _ hk => (hS k).2 (.inl hk)
  · intro k hk9
    rcases hk9 with h9 | h9 | h9 | h9
    · exact .inl ((hS k).2 (.inl h9))
    · exact .inr (hk k h9)
    · exact .inl ((hS k).2 (.inr (.inr (.inl h9))))
    · exact .inl ((hS k).2 (.inr (.inr (.inr h9))))
end
end Go.Proofs.YtgjkjkeeblbjlaaGreatDoor

namespace Go.Proofs.YtgjkjkeeblbjlaaGreatDoor
open Go.RowKit

/-- What stays true. -/
structure PaInv (s : PPart) (nx : Int) (k : Nat) : Prop where
  psort : (s.prods.map PProd.pid).Pairwise (· < ·)
  pin : ∀ x ∈ s.prods, (1 ≤ x.pid ∧ x.pid ≤ 8) ∧ 0 ≤ x.n ∧ x.n ≤ 64
  osort : s.opens.Pairwise (fun a b => a.first < b.first ∧ a.pid ≠ b.pid)
  oin : ∀ o ∈ s.opens, 0 ≤ o.first ∧ o.first < nx
  ol : s.opens.length ≤ k
  gl : s.gones.length ≤ k

theorem mem_insP {y t : PProd} : ∀ {l : List PProd}, y ∈ insP l t → y = t ∨ y ∈ l
  | [], h => by simp [insP] at h; exact .inl h
  | x :: l, h => by
    rw [insP] at h
    split at h
    · rcases List.mem_cons.1 h with rfl | h
      · exact .inr (by simp)
      · exact (mem_insP h).imp id (fun h9 => List.mem_cons_of_mem _ h9)
    · rcases List.mem_cons.1 h with rfl | h
      · exact .inl rfl
      · exact .inr h

theorem mem_setP {y t : PProd} : ∀ {l : List PProd}, y ∈ setP l t → y = t ∨ y ∈ l
  | [], h => by simp [setP] at h
  | x :: l, h => by
    rw [setP] at h
    split at h
    · rcases List.mem_cons.1 h with rfl | h
      · exact .inl rfl
      · exact .inr (List.mem_cons_of_mem _ h)
    · rcases List.mem_cons.1 h with rfl | h
      · exact .inr (by simp)
      · exact (mem_setP h).imp id (fun h9 => List.mem_cons_of_mem _ h9)

theorem setP_map (t : PProd) : ∀ (l : List PProd), (setP l t).map PProd.pid = l.map PProd.pid
  | [] => rfl
  | x :: l => by
    rw [setP]
    split
    · rename_i h; simp [h]
    · simp [setP_map t l]

theorem insP_sort {t : PProd} : ∀ {l : List PProd}, (l.map PProd.pid).Pairwise (· < ·) → (∀ x ∈ l, x.pid ≠ t.pid) → ((insP l t).map PProd.pid).Pairwise (· < ·)
  | [], _, _ => by simp [insP]
  | x :: l, h, hn => by
    rw [List.map_cons, List.pairwise_cons] at h
    have hx := hn x (by simp)
    rw [insP]
    split
    · rename_i hle
      rw [List.map_cons, List.pairwise_cons]
      refine ⟨fun a ha => ?_, insP_sort h.2 (fun y hy => hn y (List.mem_cons_of_mem _ hy))⟩
      obtain ⟨y, hy, rfl⟩ := List.mem_map.1 ha
      rcases mem_insP hy with rfl | hy
      · omega
      · exact h.1 _ (List.mem_map_of_mem hy)
    · rename_i hle
      rw [List.map_cons, List.pairwise_cons, List.map_cons, List.pairwise_cons]
      refine ⟨fun a ha => ?_, h⟩
      rcases List.mem_cons.1 ha with rfl | ha
      · omega
      · have := h.1 a ha; omega

theorem asc_len : ∀ {l : List Int} {a b : Int}, l.Pairwise (· < ·) → (∀ x ∈ l, a ≤ x ∧ x ≤ b) → (l.length : Int) ≤ max 0 (b - a + 1)
  | [], a, b, _, _ => by simp; omega
  | x :: l, a, b, h, hi => by
    rw [List.pairwise_cons] at h
    have h1 := hi x (by simp)
    have h2 := asc_len (a := x + 1) (b := b) h.2 (fun y hy => by
      have h3 := h.1 y hy
      have h4 := hi y (List.mem_cons_of_mem _ hy)
      omega)
    rw [List.length_cons]
    omega

theorem PaInv.p8 {s : PPart} {nx : Int} {k : Nat} (h : PaInv s nx k) : s.prods.length ≤ 8 := by
  have h1 := asc_len (a := 1) (b := 8) h.psort (fun x hx => by
    obtain ⟨y, hy, rfl⟩ := List.mem_map.1 hx
    exact (h.pin y hy).1)
  rw [List.length_map] at h1
  omega

theorem cut_sub (pid : Int) : ∀ (l : List POpen), (openCut l pid).Sublist l
  | [] => List.Sublist.refl _
  | x :: l => by
    rw [openCut]
    split
    · exact List.sublist_cons_self x l
    · exact (cut_sub pid l).cons_cons x

theorem PBat.len1 (b : PBat) : 1 ≤ b.len := by unfold PBat.len; omega

theorem noteP_inv {l : List PProd} {b : PBat} {base : Int} (hb : b.ok) (h1 : (l.map PProd.pid).Pairwise (· < ·)) (h2 : ∀ x ∈ l, (1 ≤ x.pid ∧ x.pid ≤ 8) ∧ 0 ≤ x.n ∧ x.n ≤ 64) :
    ((noteP l b base).map PProd.pid).Pairwise (· < ·) ∧ ∀ x ∈ noteP l b base, (1 ≤ x.pid ∧ x.pid ≤ 8) ∧ 0 ≤ x.n ∧ x.n ≤ 64 := by
  unfold noteP
  split
  · exact ⟨h1, h2⟩
  · rename_i hp
    obtain ⟨⟨⟨⟨b1, b2⟩, _, _⟩, b3, b4⟩, _, _⟩ := hb
    have hpid : (b.prod base).pid = b.pid := by unfold PBat.prod; split <;> rfl
    have hnew : ((1 ≤ (b.prod base).pid ∧ (b.prod base).pid ≤ 8) ∧ 0 ≤ (b.prod base).n ∧ (b.prod base).n ≤ 64) := by
      rw [hpid]
      refine ⟨⟨by omega, b3⟩, ?_⟩
      unfold PBat.prod
      split
      · exact ⟨Int.le_refl _, show (0 : Int) ≤ 64 by decide⟩
      · dsimp only; omega
    cases hq : prodOf l b.pid with
    | none =>
      have hno : ∀ x ∈ l, x.pid ≠ b.pid := fun x hx h9 => by
        have := List.find?_eq_none.1 hq x hx
        simp [h9] at this
      dsimp only
      refine ⟨insP_sort h1 (by rw [hpid]; exact hno), fun x hx => ?_⟩
      rcases mem_insP hx with rfl | hx
      · exact hnew
      · exact h2 x hx
    | some q =>
      dsimp only
      split
      · exact ⟨h1, h2⟩
      · refine ⟨by rw [setP_map]; exact h1, fun x hx => ?_⟩
        rcases mem_setP hx with rfl | hx
        · exact hnew
        · exact h2 x hx

theorem PaInv.took {s : PPart} {nx : Int} {k : Nat} (h : PaInv s nx k) (h0 : 0 ≤ nx) {b : PBat} (hb : b.ok) : PaInv (s.took b nx) (nx + b.len) (k + 1) := by
  have hl := b.len1
  obtain ⟨p1, p2⟩ := noteP_inv (base := nx) hb h.psort h.pin
  have hoin : ∀ o ∈ s.opens, 0 ≤ o.first ∧ o.first < nx + b.len := fun o ho => by have := h.oin o ho; omega
  have hol := h.ol
  have hgl := h.gl
  unfold PPart.took
  cases hq : openOf s.opens b.pid with
  | none =>
    have hno : ∀ x ∈ s.opens, x.pid ≠ b.pid := fun x hx h9 => by
      have := List.find?_eq_none.1 hq x hx
      simp [h9] at this
    dsimp only
    by_cases hk : b.kind = 2
    · rw [if_pos hk]
      refine ⟨p1, p2, ?_, fun o ho => ?_, by simp; omega, by dsimp only; omega⟩
      · rw [List.pairwise_append]
        refine ⟨h.osort, List.pairwise_singleton _ _, fun a ha c hc => ?_⟩
        rw [List.mem_singleton] at hc
        subst hc
        exact ⟨(h.oin a ha).2, hno a ha⟩
      · rcases List.mem_append.1 ho with ho | ho
        · exact hoin o ho
        · rw [List.mem_singleton] at ho
          subst ho
          dsimp only; omega
    · rw [if_neg hk]
      exact ⟨p1, p2, h.osort, hoin, by dsimp only; omega, by dsimp only; omega⟩
  | some q =>
    dsimp only
    have hs := cut_sub b.pid s.opens
    refine ⟨p1, p2, ?_, ?_, ?_, ?_⟩
    · dsimp only; split
      · exact h.osort.sublist hs
      · exact h.osort
    · dsimp only; split
      · exact fun o ho => hoin o (hs.subset ho)
      · exact hoin
    · dsimp only; split
      · have := hs.length_le; omega
      · omega
    · dsimp only; split
      · simp; omega
      · omega

theorem PaInv.replay : ∀ {l : List Ent} {s s1 : PPart} {nx : Int} {k : Nat}, Chain nx l → 0 ≤ nx → PaInv s nx k → paNotes.replay l s = some s1 → PaInv s1 (endOf nx l) (k + l.length)
  | [], s, s1, nx, k, _, _, h, he => by
    simp only [Notes.replay, Option.some.injEq] at he
    subst he
    exact h
  | e :: l, s, s1, nx, k, hc, h0, h, he => by
    obtain ⟨c1, c2, c3⟩ := hc
    rw [Notes.replay] at he
    cases h1 : paNotes.step e s with
    | none => rw [h1] at he; cases he
    | some s2 =>
      rw [h1] at he
      obtain ⟨b, hb, hn, rfl⟩ := paStep_some h1
      obtain ⟨_, _, _, hok⟩ := batOf_some hb
      have h2 := h.took h0 hok
      have hl := b.len1
      rw [c1] at he
      rw [hn] at c3
      rw [endOf_cons nx e l c1, hn, List.length_cons]
      have h3 := PaInv.replay c3 (by omega) h2 he
      have e9 : k + 1 + l.length = k + (l.length + 1) := by omega
      rw [e9] at h3
      exact h3

theorem paInv_of {N : Int} {s : PPart} {A : ALog} {D : PDisk} (h : NGood paNotes N s A D) : PaInv s A.next A.all.length := by
  obtain ⟨hc, he⟩ := h.chain
  have h1 := PaInv.replay (s := paNotes.init) (nx := 0) (k := 0) hc (Int.le_refl 0) ⟨by simp [paNotes], by simp [paNotes], by simp [paNotes], by simp [paNotes], by simp [paNotes], by simp [paNotes]⟩ h.rep
  rw [he, Nat.zero_add] at h1
  exact h1

/-- How much a partition knows. -/
structure PaSmall (s : PPart) : Prop where
  p8 : s.prods.length ≤ 8
  pin : ∀ x ∈ s.prods, 0 ≤ x.n ∧ x.n ≤ 64
  ol : s.opens.length ≤ 300000
  gl : s.gones.length ≤ 300000

theorem PaInv.small {s : PPart} {nx : Int} {k : Nat} (h : PaInv s nx k) (hk : k ≤ 300000) : PaSmall s :=
  ⟨h.p8, fun x hx => (h.pin x hx).2, by have := h.ol; omega, by have := h.gl; omega⟩

theorem paSmall_of {N : Int} {s : PPart} {A : ALog} {D : PDisk} (h : NGood paNotes N s A D) : PaSmall s :=
  (paInv_of h).small (by have := h.inv.count h.wf; omega)
end Go.Proofs.YtgjkjkeeblbjlaaGreatDoor
