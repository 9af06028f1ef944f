/-
  Offsets in the memory; part, ContainsFunc: the walks. Conditions: cells that read.
  A region that draws its order, walked in one order: what yields its value in every world of a class may be taken as it comes; what changes the world stands alone when it comes up; what is guarded off is passed by. No conditions of our own.
  A region that draws its order and ends in one operation that waits for all others: walked in one order; of what that last one leaves nothing is asked but what follows. No conditions of our own.
  Offsets: notes as texts, a log's notes folded one by one, and what the functions come to. No conditions.
  Offsets and their log: what stays true, whatever is noted, and behind a crash. No conditions.
  Offsets: what a deed comes to. No conditions.
  Offsets on a disk whose power stays: what the calls come to; new ones; chapter 11's example. No conditions.
-/
import Derived.Test.YtjodkcjlipecdaaGreatDoorGPM
import Derived.Test.YtjodkcjlipecdaaGreatDoorGDM
import Derived.Deep.RegionHeld
import Derived.StillTail
import Derived.Test.YtjodkcjlipecdaaGreatDoorGMM
import Derived.Test.YtjodkcjlipecdaaGreatDoorGEM
set_option maxRecDepth 100000
namespace Go.Proofs.YtjodkcjlipecdaaGreatDoor
open Go.RowKit

def comCells (l : List Int) : List Value := l.map (Value.int .i64)

structure OffRep (w : World) (o l : Nat) (cv pv : Value) (O : POff) : Prop where
  hdr : Blk w o #[ptr l, .int .i64 O.gen, .int .i64 O.next, cv, pv] 159
  com : w.ownsRow 0 3 1 cv O.com.length (comCells O.com)
  pend : w.ownsRow 0 78 4 pv O.pend.length (pendCells O.pend)

/-- The blocks of offsets. -/
def footO (o : Nat) (cv pv : Value) (k : Nat) : Prop := k = o ∨ cv.ownBlock = some k ∨ pv.ownBlock = some k

def OffAt (w : World) (o l : Nat) (S : Nat → Prop) (O : POff) : Prop := ∃ cv pv, OffRep w o l cv pv O ∧ ∀ k, S k ↔ footO o cv pv k

theorem OffRep.fr {S : Nat → Prop} {w w' : World} {o l : Nat} {cv pv : Value} {O : POff} (h : OffRep w o l cv pv O) (hf : Fr S w w') (hn : ∀ k, footO o cv pv k → ¬ S k) : OffRep w' o l cv pv O :=
  ⟨h.hdr.fr hf (hn _ (.inl rfl)), row_fr h.com hf (fun k hk => hn k (.inr (.inl hk))), row_fr h.pend hf (fun k hk => hn k (.inr (.inr hk)))⟩

theorem OffAt.fr {S S0 : Nat → Prop} {w w' : World} {o l : Nat} {O : POff} (h : OffAt w o l S O) (hf : Fr S0 w w') (hn : ∀ k, S k → ¬ S0 k) : OffAt w' o l S O := by
  obtain ⟨cv, pv, h1, h2⟩ := h
  exact ⟨cv, pv, h1.fr hf (fun k hk => hn k ((h2 k).2 hk)), h2⟩

theorem OffAt.below {S : Nat → Prop} {w w' : World} {o l : Nat} {O : POff} (h : OffAt w o l S O) (hb : Below w.heap.size w w') : OffAt w' o l S O :=
  h.fr (Fr.of_below (S := fun _ => False) hb) (fun _ _ h => h)

theorem row_blk {w : World} {base : Nat} {e : TypeId} {size : Nat} {v : Value} {n : Nat} {xs : List Value} (h : w.ownsRow base e size v n xs) {k : Nat} (hk : v.ownBlock = some k) : ∃ c, Blk w k c e := by
  rcases h.2 with ⟨rfl, _⟩ | ⟨g, cap, cur, rfl, _, hh, _⟩
  · cases hk
  · simp only [Value.ownBlock, Option.some.injEq] at hk
    subst hk
    exact ⟨cur, hh⟩

/-- Of what types the blocks are. -/
theorem OffAt.kind {S : Nat → Prop} {w : World} {o l : Nat} {O : POff} (h : OffAt w o l S O) {k : Nat} (hk : S k) : ∃ c T, Blk w k c T ∧ (T = 159 ∨ T = 3 ∨ T = 78) := by
  obtain ⟨cv, pv, h1, h2⟩ := h
  rcases (h2 k).1 hk with rfl | h3 | h3
  · exact ⟨_, _, h1.hdr, .inl rfl⟩
  · obtain ⟨c, hc⟩ := row_blk h1.com h3
    exact ⟨c, _, hc, .inr (.inl rfl)⟩
  · obtain ⟨c, hc⟩ := row_blk h1.pend h3
    exact ⟨c, _, hc, .inr (.inr rfl)⟩

theorem OffAt.lt {S : Nat → Prop} {w : World} {o l : Nat} {O : POff} (h : OffAt w o l S O) {k : Nat} (hk : S k) : k < w.heap.size := by
  obtain ⟨c, T, hc, _⟩ := h.kind hk
  exact hc.lt

theorem OffAt.notLog {S SL : Nat → Prop} {w : World} {o l l2 d : Nat} {O : POff} {L : PLog} (h : OffAt w o l S O) (hl : LogAt w l2 d SL L) {k : Nat} (hk : S k) : ¬ SL k := by
  obtain ⟨c, T, hc, hT⟩ := h.kind hk
  rcases hT with rfl | rfl | rfl
  · exact hl.other hc (by decide) (by decide) (by decide)
  · exact hl.other hc (by decide) (by decide) (by decide)
  · exact hl.other hc (by decide) (by decide) (by decide)

theorem OffAt.notDisk {S SD : Nat → Prop} {w : World} {o l d : Nat} {O : POff} {D : PDisk} (h : OffAt w o l S O) (hd : DiskAt w d SD D) {k : Nat} (hk : S k) : ¬ SD k := by
  obtain ⟨c, T, hc, hT⟩ := h.kind hk
  rcases hT with rfl | rfl | rfl
  · exact hd.other hc (by decide) (by decide)
  · exact hd.other hc (by decide) (by decide)
  · exact hd.other hc (by decide) (by decide)

theorem OffRep.cells {w : World} {o l : Nat} {cv pv : Value} {O : POff} (h : OffRep w o l cv pv O) : w.cell? ⟨o, 0, none⟩ = some (ptr l) ∧ w.cell? ⟨o, 1, none⟩ = some (.int .i64 O.gen) ∧ w.cell? ⟨o, 2, none⟩ = some (.int .i64 O.next) ∧ w.cell? ⟨o, 3, none⟩ = some cv ∧ w.cell? ⟨o, 4, none⟩ = some pv :=
  ⟨h.hdr.cell rfl, h.hdr.cell rfl, h.hdr.cell rfl, h.hdr.cell rfl, h.hdr.cell rfl⟩

/-- What a call makes of offsets. -/
def OffTo (w w' : World) (o l : Nat) (S : Nat → Prop) (O' : POff) : Prop := ∃ S', OffAt w' o l S' O' ∧ Fr S w w' ∧ ∀ k, S' k → S k ∨ w.heap.size ≤ k

theorem OffTo.of_below {w w' : World} {o l : Nat} {S : Nat → Prop} {O : POff} (h : OffAt w o l S O) (hb : Below w.heap.size w w') : OffTo w w' o l S O :=
  ⟨S, h.below hb, Fr.of_below hb, fun _ hk => .inl hk⟩

theorem OffTo.after {w w1 w2 : World} {o l : Nat} {S : Nat → Prop} {O' : POff} (hb : Below w.heap.size w w1) (h : OffTo w1 w2 o l S O') : OffTo w w2 o l S O' := by
  obtain ⟨S', a, f, s⟩ := h
  have hsz := hb.size
  exact ⟨S', a, (Fr.of_below hb).trans f, fun k hk => (s k hk).imp id (by omega)⟩

theorem OffTo.below {w w1 w2 : World} {o l : Nat} {S : Nat → Prop} {O' : POff} (h : OffTo w w1 o l S O') (hb : Below w1.heap.size w1 w2) : OffTo w w2 o l S O' := by
  obtain ⟨S', a, f, s⟩ := h
  exact ⟨S', a.below hb, f.below hb, s⟩

/-- The generation is set. -/
theorem OffRep.gen {w : World} {o l : Nat} {S : Nat → Prop} {cv pv : Value} {O : POff} (h : OffRep w o l cv pv O) (hS : ∀ k, S k ↔ footO o cv pv k) (a b : Int) :
    OffTo w ((w.setCell ⟨o, 1, none⟩ (.int .i64 a)).setCell ⟨o, 2, none⟩ (.int .i64 b)) o l S { O with gen := a, next := b } := by
  have hf : Fr (fun k => k = o) w ((w.setCell ⟨o, 1, none⟩ (.int .i64 a)).setCell ⟨o, 2, none⟩ (.int .i64 b)) :=
    ((Fr.refl (fun k => k = o) w).setCell (p := ⟨o, 1, none⟩) (.inl rfl) _).setCell (p := ⟨o, 2, none⟩) (.inl rfl) _
  have hne : ∀ {e : TypeId} {size : Nat} {v : Value} {n : Nat} {xs : List Value}, w.ownsRow 0 e size v n xs → e ≠ 159 → ∀ k, v.ownBlock = some k → ¬ k = o := by
    rintro e size v n xs hr he k hk rfl
    obtain ⟨c, hc⟩ := row_blk hr hk
    exact he (hc.inj h.hdr).2
  refine ⟨S, ⟨cv, pv, ⟨?_, row_fr h.com hf (hne h.com (by decide)), row_fr h.pend hf (hne h.pend (by decide))⟩, hS⟩, hf.mono (fun k _ hk => (hS k).2 (.inl hk)), fun k hk => .inl hk⟩
  have h9 := (h.hdr.set 1 (.int .i64 a)).set 2 (.int .i64 b)
  simpa using h9

set_option maxHeartbeats 1000000 in
theorem part_any {o n : Nat} {ad : Option Addr} {cap : Nat} {w : World} (p : Int) (hc : w.cell? ⟨o, 3, none⟩ = some (.slice ad n cap)) :
    Calls Tryz.prog 86 #[.pointer (some ⟨o, 0, none⟩), .int .i64 p] w fun e w' => e = .returned (.bool (decide (0 ≤ p ∧ p < n))) ∧ w = w' := by
  by_cases h1 : 0 ≤ p
  · by_cases h2 : p < n
    · have hd : decide (0 ≤ p ∧ p < n) = true := decide_eq_true ⟨h1, h2⟩
      rw [hd]
      go_enter Tryz.func86, Tryz.ntmps86
      go_wp2_with fail
      go_ret
      exact ⟨rfl, rfl⟩
    · have hd : decide (0 ≤ p ∧ p < n) = false := decide_eq_false (fun h => h2 h.2)
      have hd2 : decide (p < (n : Int)) = false := decide_eq_false h2
      rw [hd]
      go_enter Tryz.func86, Tryz.ntmps86
      go_wp2_with fail
      go_ret
      exact ⟨rfl, rfl⟩
  · have hd : decide (0 ≤ p ∧ p < n) = false := decide_eq_false (fun h => h1 h.1)
    have hd2 : decide (0 ≤ p) = false := decide_eq_false h1
    rw [hd]
    go_enter Tryz.func86, Tryz.ntmps86
    go_wp2_with fail
    go_ret
    exact ⟨rfl, rfl⟩

theorem idx_any {q : PPend → Bool} {l : List PPend} {r : Int} (h : Idx q l r) : decide (0 ≤ r) = l.any q := by
  rcases h with ⟨rfl, hall⟩ | ⟨k, x, rfl, hx, hq, _⟩
  · have : l.any q = false := by rw [List.any_eq_false]; intro x hx; rw [hall x hx]; decide
    rw [this]; decide
  · have h2 : l.any q = true := List.any_eq_true.2 ⟨x, List.mem_of_getElem? hx, hq⟩
    rw [h2]
    exact decide_eq_true (by omega)

set_option maxHeartbeats 1000000 in
theorem containsPend_any {base : Nat} {v : Value} {gf : Nat} {lb : Array Value} {q : PPend → Bool} {l : List PPend} {w : World} (hr : w.ownsRow base 78 4 v l.length (pendCells l)) (hl : l.length ≤ 1000000)
    (eg : ∀ args w, (callFunc gf args).run Tryz.prog w = .ok (.enter gf args) w) (hp : PredFr (fun _ => False) w gf lb q) :
    Calls Tryz.prog 93 #[v, .func (.func gf) #[] lb] w fun e w' => e = .returned (.bool (l.any q)) ∧ Below w.heap.size w w' := by
  rcases Joins.ownsRow_forms hr with ⟨rfl, hz⟩ | ⟨g, cap, rfl⟩
  · have hln : l = [] := List.length_eq_zero_iff.1 hz
    subst hln
    clear hr hp
    go_enter Tryz.func93, Tryz.ntmps93
    go_wp2_with fail
    refine (indexPend_nil _ _ w).mono ?_
    rintro e w2 ⟨rfl, rfl⟩
    go_wp2_with fail
    go_ret
    exact ⟨rfl, Below.refl _ _⟩
  · have HI := hid (indexPend_any g cap l gf lb q w (by omega) (hr.lt g rfl).2 (PendRead.own hr) eg hp)
    clear hr hp
    go_enter Tryz.func93, Tryz.ntmps93
    go_wp2_with fail
    refine HI.out.mono ?_
    rintro e w2 ⟨⟨r, rfl, hidx⟩, hb⟩
    have HB := hid hb
    have hd := idx_any hidx
    clear hb hidx HI
    go_wp2_with fail
    go_ret
    exact ⟨by rw [← hd]; rfl, HB.out⟩
end Go.Proofs.YtjodkcjlipecdaaGreatDoor

namespace Go.Proofs.YtjodkcjlipecdaaGreatDoor
open Go

section
variable {P : Program} {ops : Array Oper} {Q : Exit → Act → World → Prop} {S : World → Prop} {steps : List Nat} {md : Region.Mode}

/-- The walk, in that order. -/
def wpOrd (P : Program) (ops : Array Oper) (S : World → Prop) (steps : List Nat) (Q : Exit → Act → World → Prop) : List Nat → Act → World → Prop
  | [], a, w => Q .normal a w
  | i :: r, a, w => match ops[i]? with
    | none => False
    | some o =>
      if Region.wanted o (yielded ops a.tmps) = true then
        if steps.contains i = true then o.wp P a w (fun a' w' => S w' ∧ wpOrd P ops S steps Q r a' w') Q
        else ∃ v, (∀ w, S w → (execOp a.eval o).run P w = .ok (.value v) w) ∧ wpOrd P ops S steps Q r (a.put o.dst v) w
      else wpOrd P ops S steps Q r (a.put o.dst undef) w

/-- Does that order serve for all? -/
def ordB (md : Region.Mode) (ops : Array Oper) (steps : List Nat) : List Nat → Array Bool → Bool
  | [], listed => (Region.ready md ops listed).isEmpty
  | i :: r, listed => (if steps.contains i then (Region.ready md ops listed == [i]) else Region.free md ops listed i && (Region.ready md ops listed).contains i) && ordB md ops steps r (listed.setIfInBounds i true)

theorem put_panic (hQ : ∀ (c : List PanicEntry) (t : Tmp) (v : Value) (a : Act) (w : World), Q (.panic c) (a.put (some t) v) w → Q (.panic c) a w) (c : List PanicEntry) (d : Option Tmp) (v : Value) (a : Act) (w : World) (h : Q (.panic c) (a.put d v) w) : Q (.panic c) a w := by
  cases d with
  | none => exact h
  | some t => exact hQ c t v a w h

theorem wpOrd.held (hsel : Region.noSelect ops = true) (hQ : ∀ (c : List PanicEntry) (t : Tmp) (v : Value) (a : Act) (w : World), Q (.panic c) (a.put (some t) v) w → Q (.panic c) a w) :
    ∀ (ord : List Nat) (listed : Array Bool) (a : Act) (w : World), S w → ordB md ops steps ord listed = true → wpOrd P ops S steps Q ord a w → wpAnyH P md ops Q S ord.length listed a w
  | [], listed, a, w, _, hB, h => ⟨by simpa [ordB] using hB, h⟩
  | i :: r, listed, a, w, hS, hB, h => by
    rw [ordB, Bool.and_eq_true] at hB
    obtain ⟨hB1, hB2⟩ := hB
    rw [wpOrd] at h
    cases ho : ops[i]? with
    | none => rw [ho] at h; exact h.elim
    | some o =>
      rw [ho] at h
      dsimp only at h
      by_cases hst : steps.contains i = true
      · rw [if_pos hst] at hB1
        have hr : Region.ready md ops listed = [i] := by simpa using hB1
        refine wpAnyH_all hr (by simp) (fun j hj => ?_)
        simp only [List.mem_singleton] at hj
        subst hj
        unfold wpOp
        simp only [ho]
        split
        · rename_i hw
          rw [if_pos hw, if_pos hst] at h
          exact .inl (Oper.wp_mono (fun a' w' hh => ⟨hh.1, wpOrd.held hsel hQ r _ a' w' hh.1 hB2 hh.2⟩) h)
        · rename_i hw
          rw [if_neg hw] at h
          exact ⟨hS, wpOrd.held hsel hQ r _ _ w hS hB2 h⟩
      · rw [if_neg hst, Bool.and_eq_true] at hB1
        by_cases hw : Region.wanted o (yielded ops a.tmps) = true
        · rw [if_pos hw, if_neg hst] at h
          obtain ⟨v, hv, hr⟩ := h
          exact wpAnyH_take ho hsel hB1.1 hB1.2 (fun c a w => put_panic hQ c o.dst v a w) (.inl ⟨hw, hv⟩) hS (wpOrd.held hsel hQ r _ _ w hS hB2 hr)
        · rw [if_neg hw] at h
          exact wpAnyH_take ho hsel hB1.1 hB1.2 (fun c a w => put_panic hQ c o.dst undef a w) (.inr ⟨by simpa using hw, rfl⟩) hS (wpOrd.held hsel hQ r _ _ w hS hB2 h)

theorem wp_region_ord {id : Nat} {a : Act} {w : World} (S : World → Prop) (steps ord : List Nat) (hm : P.follows .mixedOrders = true)
    (hB : (ord.length == ops.size && Region.noSelect ops && ordB .any ops steps ord (Array.replicate ops.size false)) = true)
    (hQ : ∀ (c : List PanicEntry) (t : Tmp) (v : Value) (a : Act) (w : World), Q (.panic c) (a.put (some t) v) w → Q (.panic c) a w) (hS : S w.drew)
    (h : S w.drew → wpOrd P ops S steps Q ord a w.drew) : (Code.region id ops true).wp P Q a w := by
  simp only [Bool.and_eq_true, beq_iff_eq] at hB
  obtain ⟨⟨h1, h2⟩, h3⟩ := hB
  refine wp_region_held_drew hm hS (fun hS2 => ?_)
  rw [← h1]
  rw [← h1] at h3
  exact wpOrd.held h2 hQ ord _ a _ hS2 h3 (h hS2)

/-- The walk in a given order, kept shut. -/
structure OrdG (P : Program) (ops : Array Oper) (S : World → Prop) (steps : List Nat) (Q : Exit → Act → World → Prop) (l : List Nat) (a : Act) (w : World) : Prop where
  out : wpOrd P ops S steps Q l a w

theorem wp_region_perm {id : Nat} {a : Act} {w : World} (S : World → Prop) (steps ord : List Nat) (hm : P.follows .mixedOrders = true)
    (hB : (ord.length == ops.size && Region.noSelect ops && ordB .any ops steps ord (Array.replicate ops.size false)) = true)
    (hQ : ∀ (c : List PanicEntry) (t : Tmp) (v : Value) (a : Act) (w : World), Q (.panic c) (a.put (some t) v) w → Q (.panic c) a w) (hS : S w.drew)
    (h : S w.drew → OrdG P ops S steps Q ord a w.drew) : (Code.region id ops true).wp P Q a w :=
  wp_region_ord S steps ord hm hB hQ hS (fun hS2 => (h hS2).out)

theorem ord_nil {a : Act} {w : World} (h : Q .normal a w) : OrdG P ops S steps Q [] a w := ⟨h⟩

theorem ord_skip {i : Nat} {r : List Nat} {o : Oper} {a : Act} {w : World} (ho : ops[i]? = some o) (hw : Region.wanted o (yielded ops a.tmps) = false) (h : OrdG P ops S steps Q r (a.put o.dst undef) w) : OrdG P ops S steps Q (i :: r) a w := by
  refine ⟨?_⟩
  rw [wpOrd, ho]
  dsimp only
  rw [if_neg (by rw [hw]; decide)]
  exact h.out

theorem ord_take {i : Nat} {r : List Nat} {o : Oper} {v : Value} {a : Act} {w : World} (ho : ops[i]? = some o) (hw : Region.wanted o (yielded ops a.tmps) = true) (hs : steps.contains i = false) (hy : ∀ w, S w → (execOp a.eval o).run P w = .ok (.value v) w)
    (h : OrdG P ops S steps Q r (a.put o.dst v) w) : OrdG P ops S steps Q (i :: r) a w := by
  refine ⟨?_⟩
  rw [wpOrd, ho]
  dsimp only
  rw [if_pos hw, if_neg (by rw [hs]; decide)]
  exact ⟨v, hy, h.out⟩

theorem ord_step {i : Nat} {r : List Nat} {o : Oper} {a : Act} {w : World} (ho : ops[i]? = some o) (hw : Region.wanted o (yielded ops a.tmps) = true) (hs : steps.contains i = true)
    (h : ∀ K' : Act → World → Prop, Shut (∀ a w, S w → (S w → OrdG P ops S steps Q r a w) → K' a w) → Oper.wp P o a w K' Q) : OrdG P ops S steps Q (i :: r) a w := by
  refine ⟨?_⟩
  rw [wpOrd, ho]
  dsimp only
  rw [if_pos hw, if_pos hs]
  exact h _ (fun a w h1 h2 => ⟨h1, (h2 h1).out⟩)

/-- The walk in the order of the text. -/
def wpLex (P : Program) (ops : Array Oper) (S : World → Prop) (steps : List Nat) (Q : Exit → Act → World → Prop) : Nat → List Oper → Act → World → Prop
  | _, [], a, w => Q .normal a w
  | i, o :: r, a, w =>
      if Region.wanted o (yielded ops a.tmps) = true then
        if steps.contains i = true then o.wp P a w (fun a' w' => S w' ∧ wpLex P ops S steps Q (i + 1) r a' w') Q
        else ∃ v, (∀ w, S w → (execOp a.eval o).run P w = .ok (.value v) w) ∧ wpLex P ops S steps Q (i + 1) r (a.put o.dst v) w
      else wpLex P ops S steps Q (i + 1) r (a.put o.dst undef) w

theorem wpLex.ord : ∀ (l : List Oper) (i : Nat) (a : Act) (w : World), ops.toList.drop i = l → wpLex P ops S steps Q i l a w → wpOrd P ops S steps Q (List.range' i l.length) a w
  | [], _, _, _, _, h => h
  | o :: r, i, a, w, hl, h => by
    have hi : ops[i]? = some o := by
      have h9 := congrArg (fun l => l[0]?) hl
      simpa [List.getElem?_drop] using h9
    have hr : ops.toList.drop (i + 1) = r := by
      have h9 := congrArg (List.drop 1) hl
      simpa [List.drop_drop] using h9
    rw [wpLex] at h
    rw [List.length_cons, List.range'_succ, wpOrd, hi]
    dsimp only
    by_cases hw : Region.wanted o (yielded ops a.tmps) = true
    · rw [if_pos hw] at h ⊢
      by_cases hst : steps.contains i = true
      · rw [if_pos hst] at h ⊢
        exact Oper.wp_mono (fun a' w' hh => ⟨hh.1, wpLex.ord r (i + 1) a' w' hr hh.2⟩) h
      · rw [if_neg hst] at h ⊢
        obtain ⟨v, h1, h2⟩ := h
        exact ⟨v, h1, wpLex.ord r (i + 1) _ w hr h2⟩
    · rw [if_neg hw] at h ⊢
      exact wpLex.ord r (i + 1) _ w hr h

/-- The walk, kept shut (what is a definition would be laid open by the elaborator at each step). -/
structure Lex (P : Program) (ops : Array Oper) (S : World → Prop) (steps : List Nat) (Q : Exit → Act → World → Prop) (i : Nat) (l : List Oper) (a : Act) (w : World) : Prop where
  out : wpLex P ops S steps Q i l a w

theorem wp_region_lex {id : Nat} {a : Act} {w : World} {l : List Oper} (S : World → Prop) (steps : List Nat) (hm : P.follows .mixedOrders = true)
    (hB : (Region.noSelect l.toArray && ordB .any l.toArray steps (List.range' 0 l.length) (Array.replicate l.length false)) = true)
    (hQ : ∀ (c : List PanicEntry) (t : Tmp) (v : Value) (a : Act) (w : World), Q (.panic c) (a.put (some t) v) w → Q (.panic c) a w) (hS : S w.drew)
    (h : S w.drew → Lex P l.toArray S steps Q 0 l a w.drew) : (Code.region id l.toArray true).wp P Q a w := by
  refine wp_region_ord S steps (List.range' 0 l.length) hm ?_ hQ hS (fun hS2 => wpLex.ord l 0 a _ (by simp) (h hS2).out)
  simpa using hB

theorem lex_nil {i : Nat} {a : Act} {w : World} (h : Q .normal a w) : Lex P ops S steps Q i [] a w := ⟨h⟩

theorem lex_skip {i : Nat} {r : List Oper} {o : Oper} {a : Act} {w : World} (hw : Region.wanted o (yielded ops a.tmps) = false) (h : Lex P ops S steps Q (i + 1) r (a.put o.dst undef) w) : Lex P ops S steps Q i (o :: r) a w := by
  refine ⟨?_⟩
  rw [wpLex, if_neg (by rw [hw]; decide)]
  exact h.out

theorem lex_take {i : Nat} {r : List Oper} {o : Oper} {v : Value} {a : Act} {w : World} (hw : Region.wanted o (yielded ops a.tmps) = true) (hs : steps.contains i = false) (hy : ∀ w, S w → (execOp a.eval o).run P w = .ok (.value v) w)
    (h : Lex P ops S steps Q (i + 1) r (a.put o.dst v) w) : Lex P ops S steps Q i (o :: r) a w := by
  refine ⟨?_⟩
  rw [wpLex, if_pos hw, if_neg (by rw [hs]; decide)]
  exact ⟨v, hy, h.out⟩

theorem lex_step {i : Nat} {r : List Oper} {o : Oper} {a : Act} {w : World} (hw : Region.wanted o (yielded ops a.tmps) = true) (hs : steps.contains i = true)
    (h : ∀ K' : Act → World → Prop, Shut (∀ a w, S w → (S w → Lex P ops S steps Q (i + 1) r a w) → K' a w) → Oper.wp P o a w K' Q) : Lex P ops S steps Q i (o :: r) a w := by
  refine ⟨?_⟩
  rw [wpLex, if_pos hw, if_pos hs]
  exact h _ (fun a w h1 h2 => ⟨h1, (h2 h1).out⟩)
end
end Go.Proofs.YtjodkcjlipecdaaGreatDoor

namespace Go.Proofs.YtjodkcjlipecdaaGreatDoor
open Go

section
variable {P : Program} {ops : Array Oper} {Q : Exit → Act → World → Prop} {S : World → Prop} {steps : List Nat} {md : Region.Mode} {n : Nat}

def wpSink (P : Program) (md : Region.Mode) (ops : Array Oper) (Q : Exit → Act → World → Prop) (S : World → Prop) (n : Nat) : Nat → Array Bool → Act → World → Prop
  | 0, listed, a, w => Region.ready md ops listed = [n] ∧ Region.ready md ops (listed.setIfInBounds n true) = [] ∧ wpOp P ops Q n (fun a' w' => Q .normal a' w') a w
  | f + 1, listed, a, w => Region.ready md ops listed ≠ [] ∧ ∀ i ∈ Region.ready md ops listed, i < n ∧ wpOp P ops Q i (fun a' w' => S w' ∧ wpSink P md ops Q S n f (listed.setIfInBounds i true) a' w') a w

theorem wpAny_of_sink : ∀ (f : Nat) (listed : Array Bool) (a : Act) (w : World), wpSink P md ops Q S n f listed a w → wpAny P md ops Q (f + 1) listed a w
  | 0, listed, a, w, h => by
    obtain ⟨h1, h2, h3⟩ := h
    refine ⟨fun h0 => by rw [h0] at h1; simp at h1, fun i hi => ?_⟩
    rw [h1] at hi
    simp only [List.mem_singleton] at hi
    subst hi
    exact wpOp_mono (fun a' w' hq => ⟨h2, hq⟩) h3
  | f + 1, listed, a, w, h => ⟨fun h0 => absurd h0 h.1, fun i hi => wpOp_mono (fun a' w' h' => wpAny_of_sink f _ a' w' h'.2) (h.2 i hi).2⟩

theorem wpSink_first {i : Nat} {oi : Oper} {v : Value} (hi : ops[i]? = some oi) (hsel : ∀ (j : Nat) (o : Oper) cs b, ops[j]? = some o → o.op ≠ .select cs b)
    (hQ : ∀ c a w, Q (.panic c) (a.put oi.dst v) w → Q (.panic c) a w) (hs : Region.sinkB md ops n = true) (hc : Region.chainB md ops n = true) (hn : n < ops.size) (hin : i < n) :
    ∀ (f : Nat) (listed : Array Bool) (a : Act) (w : World), HeadInv md ops n listed →
      (∀ j oj, ops[j]? = some oj → j ≠ i → listed.getD j true = false → (∀ e ∈ oj.after, Region.binds md e = true → e.on ≠ i) → oi.apart ops oj = true) →
      i ∈ Region.ready md ops listed → YieldsIf P ops S oi v a → S w →
      wpSink P md ops Q S n f (listed.setIfInBounds i true) (a.put oi.dst v) w → wpSink P md ops Q S n (f + 1) listed a w := by
  intro f
  induction f with
  | zero =>
    intro listed a w inv _ hr hy hS H
    have hun := (mem_ready.1 hr).1
    refine ⟨fun h => (by rw [h] at hr; cases hr), fun j hj => ?_⟩
    by_cases hji : j = i
    · subst hji; exact ⟨hin, hy.wpOp hi hS ⟨hS, H⟩⟩
    · have h1 := ready_mono hj hji
      rw [H.1] at h1
      simp only [List.mem_singleton] at h1
      subst h1
      exact absurd hj (tail_waits hs hc hn inv _ i rfl hin hun j (Nat.le_refl _))
  | succ f ih =>
    intro listed a w inv hfree hr hy hS H
    have hun := (mem_ready.1 hr).1
    refine ⟨fun h => (by rw [h] at hr; cases hr), fun j hj => ?_⟩
    by_cases hji : j = i
    · subst hji; exact ⟨hin, hy.wpOp hi hS ⟨hS, H⟩⟩
    · have hjn : j < n := Nat.lt_of_not_le fun h => tail_waits hs hc hn inv _ i rfl hin hun j h hj
      refine ⟨hjn, ?_⟩
      have h1 := (H.2 j (ready_mono hj hji)).2
      obtain ⟨hjun, oj, hoj, hall⟩ := mem_ready.1 hj
      have hnot : ∀ e ∈ oj.after, Region.binds md e = true → e.on ≠ i := fun e he hb heq => by
        have h1 := hall e he hb
        rw [heq, getD_both hun] at h1
        cases h1
      have h2 := wpOp_putIf hoj (hfree j oj hoj hji hjun hnot) (fun cs b => hsel i oi cs b hi) (fun cs b => hsel j oj cs b hoj) hQ hy h1
      have hfree' : ∀ k ok, ops[k]? = some ok → k ≠ i → (listed.setIfInBounds j true).getD k true = false →
          (∀ e ∈ ok.after, Region.binds md e = true → e.on ≠ i) → oi.apart ops ok = true := fun k ok hk hki hun hno => by
        refine hfree k ok hk hki ?_ hno
        by_cases hjk : j = k
        · subst hjk; exact hjun
        · rw [getD_set_ne true hjk] at hun; exact hun
      refine wpOp_mono (fun a' w' h3 => ⟨h3.2.1, ih (listed.setIfInBounds j true) a' w' (inv.set hj hjn) hfree' (ready_mono hr (Ne.symm hji)) h3.1 h3.2.1 ?_⟩) h2
      rw [Array.setIfInBounds_comm _ _ hji]
      exact h3.2.2

/-- The walk, in a given order, the last one behind it. -/
def wpOrdT (P : Program) (ops : Array Oper) (S : World → Prop) (steps : List Nat) (Q : Exit → Act → World → Prop) (n : Nat) : List Nat → Act → World → Prop
  | [], a, w => wpOp P ops Q n (fun a' w' => Q .normal a' w') a w
  | i :: r, a, w => match ops[i]? with
    | none => False
    | some o =>
      if Region.wanted o (yielded ops a.tmps) = true then
        if steps.contains i = true then o.wp P a w (fun a' w' => S w' ∧ wpOrdT P ops S steps Q n r a' w') Q
        else ∃ v, (∀ w, S w → (execOp a.eval o).run P w = .ok (.value v) w) ∧ wpOrdT P ops S steps Q n r (a.put o.dst v) w
      else wpOrdT P ops S steps Q n r (a.put o.dst undef) w

def ordTB (md : Region.Mode) (ops : Array Oper) (steps : List Nat) (n : Nat) : List Nat → Array Bool → Bool
  | [], listed => (Region.ready md ops listed == [n]) && (Region.ready md ops (listed.setIfInBounds n true)).isEmpty
  | i :: r, listed => (if steps.contains i then (Region.ready md ops listed == [i]) else Region.free md ops listed i && (Region.ready md ops listed).contains i) && decide (i < n) && ordTB md ops steps n r (listed.setIfInBounds i true)

theorem wpOrdT.sink (hsel : Region.noSelect ops = true) (hs : Region.sinkB md ops n = true) (hc : Region.chainB md ops n = true) (hn : n < ops.size)
    (hQ : ∀ (c : List PanicEntry) (t : Tmp) (v : Value) (a : Act) (w : World), Q (.panic c) (a.put (some t) v) w → Q (.panic c) a w) :
    ∀ (ord : List Nat) (listed : Array Bool) (a : Act) (w : World), HeadInv md ops n listed → S w → ordTB md ops steps n ord listed = true → wpOrdT P ops S steps Q n ord a w → wpSink P md ops Q S n ord.length listed a w
  | [], listed, a, w, _, _, hB, h => by
    rw [ordTB, Bool.and_eq_true] at hB
    exact ⟨by simpa using hB.1, by simpa using hB.2, h⟩
  | i :: r, listed, a, w, inv, hS, hB, h => by
    rw [ordTB, Bool.and_eq_true, Bool.and_eq_true] at hB
    obtain ⟨⟨hB1, hin⟩, hB2⟩ := hB
    have hin : i < n := by simpa using hin
    rw [wpOrdT] at h
    cases ho : ops[i]? with
    | none => rw [ho] at h; exact h.elim
    | some o =>
      rw [ho] at h
      dsimp only at h
      by_cases hst : steps.contains i = true
      · rw [if_pos hst] at hB1
        have hr : Region.ready md ops listed = [i] := by simpa using hB1
        have hmem : i ∈ Region.ready md ops listed := by rw [hr]; simp
        refine ⟨by rw [hr]; simp, fun j hj => ?_⟩
        rw [hr] at hj
        simp only [List.mem_singleton] at hj
        subst hj
        refine ⟨hin, ?_⟩
        unfold wpOp
        simp only [ho]
        split
        · rename_i hw
          rw [if_pos hw, if_pos hst] at h
          exact .inl (Oper.wp_mono (fun a' w' hh => ⟨hh.1, wpOrdT.sink hsel hs hc hn hQ r _ a' w' (inv.set hmem hin) hh.1 hB2 hh.2⟩) h)
        · rename_i hw
          rw [if_neg hw] at h
          exact ⟨hS, wpOrdT.sink hsel hs hc hn hQ r _ _ w (inv.set hmem hin) hS hB2 h⟩
      · rw [if_neg hst, Bool.and_eq_true] at hB1
        have hmem : i ∈ Region.ready md ops listed := by simpa using hB1.2
        by_cases hw : Region.wanted o (yielded ops a.tmps) = true
        · rw [if_pos hw, if_neg hst] at h
          obtain ⟨v, hv, hr⟩ := h
          exact wpSink_first ho (Region.noSelect_spec hsel) (fun c a w => put_panic hQ c o.dst v a w) hs hc hn hin r.length listed a w inv (Region.free_spec ho hB1.1) hmem (.inl ⟨hw, hv⟩) hS
            (wpOrdT.sink hsel hs hc hn hQ r _ _ w (inv.set hmem hin) hS hB2 hr)
        · rw [if_neg hw] at h
          exact wpSink_first ho (Region.noSelect_spec hsel) (fun c a w => put_panic hQ c o.dst undef a w) hs hc hn hin r.length listed a w inv (Region.free_spec ho hB1.1) hmem (.inr ⟨by simpa using hw, rfl⟩) hS
            (wpOrdT.sink hsel hs hc hn hQ r _ _ w (inv.set hmem hin) hS hB2 h)

/-- Kept shut. -/
structure OrdT (P : Program) (ops : Array Oper) (S : World → Prop) (steps : List Nat) (Q : Exit → Act → World → Prop) (n : Nat) (l : List Nat) (a : Act) (w : World) : Prop where
  out : wpOrdT P ops S steps Q n l a w

theorem wp_region_last {id : Nat} {a : Act} {w : World} (S : World → Prop) (n : Nat) (steps ord : List Nat) (hm : P.follows .mixedOrders = true)
    (hB : (ord.length == n && (ops.size == n + 1) && Region.noSelect ops && Region.sinkB .any ops n && Region.chainB .any ops n && ordTB .any ops steps n ord (Array.replicate ops.size false)) = true)
    (hQ : ∀ (c : List PanicEntry) (t : Tmp) (v : Value) (a : Act) (w : World), Q (.panic c) (a.put (some t) v) w → Q (.panic c) a w) (hS : S w.drew)
    (h : S w.drew → OrdT P ops S steps Q n ord a w.drew) : (Code.region id ops true).wp P Q a w := by
  simp only [Bool.and_eq_true, beq_iff_eq] at hB
  obtain ⟨⟨⟨⟨⟨h1, h2⟩, h3⟩, h4⟩, h5⟩, h6⟩ := hB
  have inv0 : HeadInv .any ops n (Array.replicate ops.size false) :=
    ⟨by simp, fun j oj _ hl => (by rw [getD_replicate_false] at hl; cases hl), fun t _ ht => getD_in (by simpa using ht) (getD_replicate_false _ _)⟩
  refine wp_region_any hm ?_
  have hw := wpAny_of_sink _ _ _ _ (wpOrdT.sink (P := P) (md := .any) h3 h4 h5 (by omega) hQ ord _ a _ inv0 hS h6 (h hS).out)
  rw [h1, ← h2] at hw
  exact hw

theorem last_step {a : Act} {w : World} {o : Oper} (ho : ops[n]? = some o) (hw : Region.wanted o (yielded ops a.tmps) = true) (h : ∀ K' : Act → World → Prop, (∀ a w, Q .normal a w → K' a w) → Oper.wp P o a w K' Q) : OrdT P ops S steps Q n [] a w := by
  refine ⟨?_⟩
  show wpOp P ops Q n _ a w
  unfold wpOp
  simp only [ho]
  rw [if_pos hw]
  exact .inl (h _ (fun _ _ h => h))

theorem last_skip {i : Nat} {r : List Nat} {o : Oper} {a : Act} {w : World} (ho : ops[i]? = some o) (hw : Region.wanted o (yielded ops a.tmps) = false) (h : OrdT P ops S steps Q n r (a.put o.dst undef) w) : OrdT P ops S steps Q n (i :: r) a w := by
  refine ⟨?_⟩
  rw [wpOrdT, ho]
  dsimp only
  rw [if_neg (by rw [hw]; decide)]
  exact h.out

theorem last_take {i : Nat} {r : List Nat} {o : Oper} {v : Value} {a : Act} {w : World} (ho : ops[i]? = some o) (hw : Region.wanted o (yielded ops a.tmps) = true) (hs : steps.contains i = false) (hy : ∀ w, S w → (execOp a.eval o).run P w = .ok (.value v) w)
    (h : OrdT P ops S steps Q n r (a.put o.dst v) w) : OrdT P ops S steps Q n (i :: r) a w := by
  refine ⟨?_⟩
  rw [wpOrdT, ho]
  dsimp only
  rw [if_pos hw, if_neg (by rw [hs]; decide)]
  exact ⟨v, hy, h.out⟩

theorem last_law {i : Nat} {r : List Nat} {o : Oper} {a : Act} {w : World} (ho : ops[i]? = some o) (hw : Region.wanted o (yielded ops a.tmps) = true) (hs : steps.contains i = true)
    (h : ∀ K' : Act → World → Prop, Shut (∀ a w, S w → (S w → OrdT P ops S steps Q n r a w) → K' a w) → Oper.wp P o a w K' Q) : OrdT P ops S steps Q n (i :: r) a w := by
  refine ⟨?_⟩
  rw [wpOrdT, ho]
  dsimp only
  rw [if_pos hw, if_pos hs]
  exact h _ (fun a w h1 h2 => ⟨h1, (h2 h1).out⟩)
end
end Go.Proofs.YtjodkcjlipecdaaGreatDoor

namespace Go.Proofs.YtjodkcjlipecdaaGreatDoor
open Go.RowKit

def PNote.text (n : PNote) : List UInt8 := putAllL n.nums

theorem takeAllL_put : ∀ (xs : List Int) (t : List UInt8), (∀ x ∈ xs, -9223372036854775808 ≤ x ∧ x ≤ 9223372036854775807) → takeAllL xs.length (putAllL xs ++ t) = some (xs, t)
  | [], t, _ => rfl
  | x :: xs, t, h => by
    have hx := h x (by simp)
    have e : putAllL (x :: xs) ++ t = putL x ++ (putAllL xs ++ t) := by simp [putAllL]
    rw [e, List.length_cons, takeAllL, takeL_put hx.1 hx.2]
    dsimp only
    rw [takeAllL_put xs t (fun y hy => h y (by simp [hy]))]
    dsimp only
    rw [unzig_zig]

/-- The note that a text is. -/
def noteOf (t : List UInt8) : Option PNote := match takeAllL 5 t with
  | some ([k, a, b, c, d], []) => some ⟨k, a, b, c, d⟩
  | _ => none

theorem noteOf_text {n : PNote} (h : ∀ x ∈ n.nums, -9223372036854775808 ≤ x ∧ x ≤ 9223372036854775807) : noteOf n.text = some n := by
  have h1 := takeAllL_put n.nums [] h
  rw [List.append_nil] at h1
  unfold noteOf PNote.text
  have h2 : takeAllL 5 (putAllL n.nums) = some (n.nums, []) := h1
  rw [h2]
  rfl

/-- Notes are folded one by one. -/
def replay : List Ent → POff → Option POff
  | [], O => some O
  | e :: r, O => if e.n = 1 then match noteOf e.text with
      | none => none
      | some n => match O.fold n with
        | none => none
        | some O' => replay r O'
    else none

theorem replay_app : ∀ (l m : List Ent) (O : POff), replay (l ++ m) O = (replay l O).bind (replay m)
  | [], m, O => rfl
  | e :: l, m, O => by
    rw [List.cons_append, replay, replay]
    split
    · cases noteOf e.text with
      | none => rfl
      | some n =>
        dsimp only
        cases O.fold n with
        | none => rfl
        | some O' => exact replay_app l m O'
    · rfl

theorem replay_split {l m : List Ent} {O O2 : POff} (h : replay (l ++ m) O = some O2) : ∃ O1, replay l O = some O1 ∧ replay m O1 = some O2 := by
  rw [replay_app] at h
  cases h1 : replay l O with
  | none => rw [h1] at h; cases h
  | some O1 => rw [h1] at h; exact ⟨O1, rfl, h⟩

theorem replay_one {b : Int} {n : PNote} {O : POff} (h : ∀ x ∈ n.nums, -9223372036854775808 ≤ x ∧ x ≤ 9223372036854775807) : replay [⟨b, 1, n.text⟩] O = O.fold n := by
  rw [replay, if_pos rfl]
  dsimp only
  rw [noteOf_text h]
  dsimp only
  cases O.fold n <;> rfl

theorem replay_ok : ∀ {l : List Ent} {O O' : POff}, O.Ok → replay l O = some O' → O'.Ok ∧ O'.com.length = O.com.length
  | [], O, O', h, he => by
    simp only [replay, Option.some.injEq] at he
    subst he; exact ⟨h, rfl⟩
  | e :: l, O, O', h, he => by
    rw [replay] at he
    split at he
    · cases hn : noteOf e.text with
      | none => rw [hn] at he; cases he
      | some n =>
        rw [hn] at he
        dsimp only at he
        cases hf : O.fold n with
        | none => rw [hf] at he; cases he
        | some O1 =>
          rw [hf] at he
          have h1 := h.folds hf
          obtain ⟨h2, h3⟩ := replay_ok h1.ok he
          exact ⟨h2, h3.trans h1.len⟩
    · cases he

/-- New ones. -/
def POff.init (parts : Nat) : POff := ⟨0, 1, List.replicate parts 0, []⟩

theorem POff.init_ok (parts : Nat) : (POff.init parts).Ok := by
  refine ⟨(by decide : isNum 0), (by decide : isNum 1), fun n hn => ?_, fun x hx => by simp [POff.init] at hx, List.Pairwise.nil⟩
  have : n = 0 := List.eq_of_mem_replicate hn
  subst this; decide

/-- A note that fits is of small numbers. -/
theorem fold_nums {O O' : POff} {n : PNote} (hl : O.com.length ≤ 4) (h : O.fold n = some O') : ∀ x ∈ n.nums, 0 ≤ x ∧ x ≤ 1099511627776 := by
  unfold POff.fold at h
  have key : ∀ {p q : Prop} [Decidable (p ∨ q)] {o : POff}, (if p ∨ q then none else some o) = some O' → ¬ p ∧ ¬ q := by
    intro p q _ o h9
    split at h9
    · cases h9
    · rename_i h8; exact ⟨fun h7 => h8 (.inl h7), fun h7 => h8 (.inr h7)⟩
  intro x hx
  simp only [PNote.nums, List.mem_cons, List.not_mem_nil, or_false] at hx
  split at h
  · obtain ⟨h1, h2⟩ := key h
    have g1 := Classical.not_not.1 h1
    have g2 : isNum n.b := Decidable.byContradiction fun h9 => h2 (.inl h9)
    have g3 : ¬ n.c ≠ 0 := fun h9 => h2 (.inr (.inr (.inr (.inl h9))))
    have g4 : ¬ n.d ≠ 0 := fun h9 => h2 (.inr (.inr (.inr (.inr h9))))
    unfold isNum at g1 g2
    rcases hx with rfl | rfl | rfl | rfl | rfl <;> omega
  · split at h
    · obtain ⟨h1, h2⟩ := key h
      have g1 := Classical.not_not.1 h1
      have g2 : O.isPart n.c := Decidable.byContradiction fun h9 => h2 (.inl h9)
      have g3 : isNum n.d := Decidable.byContradiction fun h9 => h2 (.inr (.inl h9))
      unfold isNum at g3
      unfold isProd at g1
      unfold POff.isPart at g2
      rcases hx with rfl | rfl | rfl | rfl | rfl <;> omega
    · split at h
      · obtain ⟨h1, h2⟩ := key h
        have g1 := Classical.not_not.1 h1
        have g2 : ¬ (n.c ≠ 0 ∧ n.c ≠ 1) := fun h9 => h2 (.inl h9)
        have g3 : ¬ n.d ≠ 0 := fun h9 => h2 (.inr (.inl h9))
        unfold isProd at g1
        rcases hx with rfl | rfl | rfl | rfl | rfl <;> omega
      · cases h

theorem nums64 {n : PNote} (h : ∀ x ∈ n.nums, 0 ≤ x ∧ x ≤ 1099511627776) : ∀ x ∈ n.nums, -9223372036854775808 ≤ x ∧ x ≤ 9223372036854775807 := fun x hx => by have := h x hx; omega

theorem putL_short {n : Int} (h0 : 0 ≤ n) (h1 : n ≤ 1099511627776) : (putL n).length ≤ 6 := by
  unfold putL
  refine leb_len_le 5 _ ?_
  unfold zig
  rw [if_pos h0]
  omega

theorem text_len {n : PNote} (h : ∀ x ∈ n.nums, 0 ≤ x ∧ x ≤ 1099511627776) : n.text.length ≤ 30 := by
  have hk := fun x hx => putL_short (h x hx).1 (h x hx).2
  have h1 := hk n.kind (by simp [PNote.nums])
  have h2 := hk n.a (by simp [PNote.nums])
  have h3 := hk n.b (by simp [PNote.nums])
  have h4 := hk n.c (by simp [PNote.nums])
  have h5 := hk n.d (by simp [PNote.nums])
  unfold PNote.text putAllL PNote.nums
  simp only [List.map_cons, List.map_nil, List.flatten_cons, List.flatten_nil, List.length_append, List.length_nil]
  omega

theorem text_len' {n : PNote} (h : ∀ x ∈ n.nums, -9223372036854775808 ≤ x ∧ x ≤ 9223372036854775807) : n.text.length ≤ 50 := putAllL_len n.nums h

/-- A note is written, and folded. -/
def POff.write (O : POff) (L : PLog) (D : PDisk) (n : PNote) : POff × PLog × PDisk × Int :=
  let r := L.append D [⟨1, n.text⟩]
  if r.2.2.2 ≠ 0 then (O, r.1, r.2.1, r.2.2.2) else
  let s := r.1.sync r.2.1
  if s.2.2 ≠ 0 then (O, s.1, s.2.1, s.2.2) else ((O.fold n).getD O, s.1, s.2.1, 0)

def POff.begin (O : POff) (L : PLog) (D : PDisk) (g n : Int) : POff × PLog × PDisk × Int :=
  if ¬ (isNum g ∧ isNum n) then (O, L, D, 1) else if L.e ≠ 0 then (O, L, D, L.e)
  else if g < O.gen ∨ n < O.next then (O, L, D, 9) else if g = O.gen ∧ n = O.next then (O, L, D, 0) else O.write L D ⟨1, g, n, 0, 0⟩

/-- What Pend tells of one that is pending. -/
def PPend.told (x : PPend) (pid epoch off : Int) (same : Prop) [Decidable same] : Int :=
  if x.pid ≠ pid then 10 else if x.epoch = epoch ∧ x.off = off ∧ same then 0 else 9

def POff.pendOne (O : POff) (L : PLog) (D : PDisk) (pid epoch part frm off : Int) : POff × PLog × PDisk × Int :=
  if ¬ (isProd pid epoch ∧ O.isPart part ∧ isNum frm ∧ isNum off) then (O, L, D, 1) else if L.e ≠ 0 then (O, L, D, L.e) else
  match O.ofPart part with
  | x :: _ => (O, L, D, x.told pid epoch off (O.at part = frm))
  | [] => if O.at part ≠ frm then (O, L, D, 12) else if off < frm then (O, L, D, 6) else O.write L D ⟨2, pid, epoch, part, off⟩

def POff.done (O : POff) (L : PLog) (D : PDisk) (pid epoch : Int) (yes : Bool) : POff × PLog × PDisk × Int :=
  if ¬ isProd pid epoch then (O, L, D, 1) else if L.e ≠ 0 then (O, L, D, L.e)
  else if ∃ x ∈ O.ofPid pid, epoch < x.epoch then (O, L, D, 8) else if O.ofPid pid = [] then (O, L, D, 0) else O.write L D ⟨3, pid, epoch, if yes then 1 else 0, 0⟩

def POff.fetch (O : POff) (L : PLog) (part : Int) : Int × Int :=
  if ¬ O.isPart part then (0, 1) else if L.e ≠ 0 then (0, L.e) else if O.ofPart part ≠ [] then (0, 10) else (O.at part, 0)
end Go.Proofs.YtjodkcjlipecdaaGreatDoor

namespace Go.Proofs.YtjodkcjlipecdaaGreatDoor
open Go.RowKit

def offName : List UInt8 := [111, 102, 102, 115, 101, 116, 115]

/-- Offsets as their log has them. -/
structure OGood (parts : Nat) (N : Int) (O : POff) (A : ALog) (D : PDisk) : Prop where
  inv : Inv A D
  wf : D.WF N
  name : A.name = offName
  e : A.e = 0
  first : A.first = 0
  off : D.off = false
  ok : O.Ok
  len : O.com.length = parts
  rep : replay A.all (POff.init parts) = some O
  sure : A.sure = A.next

/-- A note that changes something. -/
def PNote.fresh (n : PNote) (O : POff) : Prop := n.kind = 1 → ¬ (n.a = O.gen ∧ n.b = O.next)

/-- What may lie behind what was told. -/
def OTail (O : POff) (Y : List Ent) : Prop := Y = [] ∨ ∃ b n O', Y = [⟨b, 1, n.text⟩] ∧ O.fold n = some O' ∧ n.fresh O

/-- Offsets whose power has gone. -/
structure ODark (parts : Nat) (N : Int) (O : POff) (A : ALog) (D : PDisk) : Prop where
  e : A.e = 4
  off : D.off = true
  wf : D.WF N
  ok : O.Ok
  len : O.com.length = parts
  left : ∃ A2 B Y, Inv A2 D ∧ A2.name = offName ∧ A2.first = 0 ∧ A2.all = B ++ Y ∧ Chain 0 B ∧ endOf 0 B ≤ A2.sure ∧ replay B (POff.init parts) = some O ∧ OTail O Y

theorem OGood.next0 {parts : Nat} {N : Int} {O : POff} {A : ALog} {D : PDisk} (h : OGood parts N O A D) : 0 ≤ A.next := by
  have h1 := h.inv.sure_le; have h2 := h.inv.first; omega

theorem OGood.chain {parts : Nat} {N : Int} {O : POff} {A : ALog} {D : PDisk} (h : OGood parts N O A D) : Chain 0 A.all ∧ endOf 0 A.all = A.next := by
  have h1 := h.inv.all_chain
  rw [h.first] at h1
  exact h1

/-- What a note comes to. -/
inductive WOut (parts : Nat) (N : Int) (O : POff) (A : ALog) (D : PDisk) (O' : POff) : POff × PLog × PDisk × Int → Prop
  | ok (A' : ALog) (D' : PDisk) (good : OGood parts N O' A' D') (fuse : D.fuse = -1 → D'.fuse = -1) (next : A'.next = A.next + 1) : WOut parts N O A D O' (O', A'.toP, D', 0)
  | no (A' : ALog) (D' : PDisk) (c : Int) (good : OGood parts N O A' D') (hc : c ≠ 0) (fuse : D.fuse = -1 → D'.fuse = -1) : WOut parts N O A D O' (O, A'.toP, D', c)
  | dark (A' : ALog) (D' : PDisk) (dark : ODark parts N O A' D') (was : D.fuse ≠ -1) : WOut parts N O A D O' (O, A'.toP, D', 4)

theorem mk_one (b : Int) (t : List UInt8) : mkEnts b [⟨1, t⟩] = [⟨b, 1, t⟩] := rfl

theorem OGood.write {parts : Nat} {N : Int} {O O' : POff} {A : ALog} {D : PDisk} {n : PNote} (h : OGood parts N O A D) (hp : parts ≤ 4) (hf : O.fold n = some O') (hfr : n.fresh O) : WOut parts N O A D O' (O.write A.toP D n) := by
  have hnum := fold_nums (by have := h.len; omega) hf
  have h64 := nums64 hnum
  have hfo := h.ok.folds hf
  obtain ⟨hch, hend⟩ := h.chain
  have hrep2 : ∀ b, replay (A.all ++ [⟨b, 1, n.text⟩]) (POff.init parts) = some O' := by
    intro b
    rw [replay_app, h.rep]
    show replay [⟨b, 1, n.text⟩] O = some O'
    rw [replay_one h64, hf]
  have hwf : (A.toP.append D [⟨1, n.text⟩]).2.1.WF N := PLog.append_disk h.wf _
  have hwf2 : ∀ {A1 : ALog} {D1 : PDisk}, D1.WF N → (A1.sync D1).2.1.WF N := by
    intro A1 D1 h9
    have := PLog.sync_disk (L := A1.toP) h9
    rw [toP_sync] at this
    exact this
  have ho := h.inv.append_out h.wf h.e [⟨1, n.text⟩]
  unfold POff.write
  rw [toP_append] at hwf ⊢
  generalize A.append D [⟨1, n.text⟩] = r at ho hwf ⊢
  cases ho with
  | ok A' D' inv name all next chain first e sure own' off fuse ents =>
    dsimp only at hwf ⊢
    rw [if_neg (by decide), toP_sync]
    have hs := inv.sync_out hwf e
    have hw2 := hwf2 (A1 := A') hwf
    rw [mk_one] at all next
    generalize A'.sync D' = s at hs hw2 ⊢
    cases hs with
    | ok A2 D2 inv2 name2 segs2 e2 sure2 room2 len2 own2 off2 fuse2 =>
      dsimp only
      rw [if_neg (by decide), hf, Option.getD_some]
      have hf2 : A2.first = A.first := by unfold ALog.first at first ⊢; rw [segs2]; exact first
      have hn2 : A2.next = A'.next := by unfold ALog.next; rw [segs2]
      refine .ok A2 D2 ⟨inv2, hw2, by rw [name2, name]; exact h.name, e2, by rw [hf2]; exact h.first, off2 off, hfo.ok, by rw [hfo.len]; exact h.len, ?_, by rw [sure2, hn2]⟩ (fun h9 => fuse2 (fuse h9)) (by rw [hn2, next]; rfl)
      have ha2 : A2.all = A'.all := by unfold ALog.all; rw [segs2]
      rw [ha2, all]
      exact hrep2 _
    | dark D2 inv2 off2 was2 =>
      dsimp only
      rw [if_pos (by decide)]
      refine .dark { A' with e := 4 } D2 ⟨rfl, off2, hw2, h.ok, h.len, { A' with e := 4 }, A.all, [⟨A.next, 1, n.text⟩], inv2, by show A'.name = _; rw [name]; exact h.name, first.trans h.first, all, hch, ?_, h.rep, .inr ⟨_, n, O', rfl, hf, hfr⟩⟩ ?_
      · show endOf 0 A.all ≤ A'.sure
        rw [hend, ← h.sure]; exact sure
      · intro h9
        have h10 := fuse h9
        rcases was2 with h11 | h11
        · rw [off] at h11; cases h11
        · omega
  | full A' D' inv name segs e sure room len own' off fuse =>
    dsimp only at hwf ⊢
    rw [if_pos (by decide)]
    have hf2 : A'.first = A.first := by unfold ALog.first; rw [segs]
    have hn2 : A'.next = A.next := by unfold ALog.next; rw [segs]
    have ha2 : A'.all = A.all := by unfold ALog.all; rw [segs]
    refine .no A' D' 5 ⟨inv, hwf, by rw [name]; exact h.name, e, by rw [hf2]; exact h.first, off, h.ok, h.len, by rw [ha2]; exact h.rep, ?_⟩ (by decide) fuse
    have h1 := inv.sure_le.2
    have h2 := h.sure
    omega
  | bad c why =>
    dsimp only
    have hc : c ≠ 0 := by
      rcases why with ⟨_, h1⟩ | ⟨_, _, h1⟩ <;> omega
    rw [if_pos hc]
    exact .no A D c h hc id
  | dark A' A2 D' inv name name2 segs sure sure' e chain max all off was first =>
    dsimp only at hwf ⊢
    rw [if_pos (by decide)]
    rw [mk_one] at all
    have hs2 : endOf 0 A.all ≤ A2.sure := by rw [hend, ← h.sure, sure]; exact sure'
    refine .dark A' D' ⟨e, off, hwf, h.ok, h.len, A2, A.all, ?_⟩ ?_
    · rcases all with hall | hall
      · exact ⟨[], inv, by rw [name2]; exact h.name, first.trans h.first, by rw [hall, List.append_nil], hch, hs2, h.rep, .inl rfl⟩
      · exact ⟨[⟨A.next, 1, n.text⟩], inv, by rw [name2]; exact h.name, first.trans h.first, hall, hch, hs2, h.rep, .inr ⟨_, n, O', rfl, hf, hfr⟩⟩
    · intro h9
      rcases was with h10 | h10
      · rw [h.off] at h10; cases h10
      · omega

/-- Of two lists with the same beginning, the longer one ends later. -/
theorem prefix_end {B C Y r : List Ent} {b : Int} (hB : Chain b B) (he : B ++ Y = C ++ r) (hle : endOf b B ≤ endOf b C) : ∃ Z, C = B ++ Z ∧ Y = Z ++ r := by
  rcases List.append_eq_append_iff.1 he with ⟨Z, h1, h2⟩ | ⟨Z, h1, h2⟩
  · exact ⟨Z, h1, h2⟩
  · subst h1
    obtain ⟨_, h4⟩ := endOf_prefix hB
    have h5 := (endOf_prefix hB).1
    have h6 := h4 (by omega)
    subst h6
    exact ⟨[], by simp, by simpa using h2.symm⟩

/-- What is there behind a crash. -/
theorem reopened {parts : Nat} {N : Int} {O : POff} {A2 : ALog} {D : PDisk} {B Y : List Ent} (hw : D.WF N) (inv : Inv A2 D) (name : A2.name = offName) (first : A2.first = 0) (all : A2.all = B ++ Y) (hB : Chain 0 B) (hs : endOf 0 B ≤ A2.sure) (rep : replay B (POff.init parts) = some O) (hY : OTail O Y) (hp : parts ≤ 4) (keep : List Int) :
    ∃ A3 D3 O3, (D.crash keep).openLog offName = (A3.toP, D3, 0) ∧ OGood parts N O3 A3 D3 ∧ D3.fuse = -1 ∧ (O3 = O ∨ (Y ≠ [] ∧ ∃ n, O.fold n = some O3 ∧ n.fresh O)) := by
  obtain ⟨A3, D3, r, h1, h2, h3, h4, h5, h6, h7, h8, h9, h10, h11⟩ := inv.reopen1 hw keep
  rw [name] at h1
  obtain ⟨c3, n3⟩ := h7.all_chain
  have hf0 : A3.first = 0 := h11.trans first
  obtain ⟨Z, hZ, hYr⟩ : ∃ Z, A3.all = B ++ Z ∧ Y = Z ++ r := by
    refine prefix_end hB (all.symm.trans h2) ?_
    rw [hf0] at n3
    rw [n3]; omega
  have hinit := POff.init_ok parts
  have hilen : (POff.init parts).com.length = parts := by simp [POff.init]
  have good : ∀ O3, replay A3.all (POff.init parts) = some O3 → OGood parts N O3 A3 D3 := by
    intro O3 hr
    obtain ⟨k1, k2⟩ := replay_ok hinit hr
    exact ⟨h7, h8, by rw [h6]; exact name, h5, hf0, h9, k1, by rw [k2]; exact hilen, hr, h4⟩
  rcases hY with rfl | ⟨b, n, O', rfl, hf, hfr⟩
  · have hz : Z = [] := by
      cases Z with
      | nil => rfl
      | cons a l => simp at hYr
    subst hz
    rw [List.append_nil] at hZ
    exact ⟨A3, D3, O, h1, good O (by rw [hZ]; exact rep), h10, .inl rfl⟩
  · cases Z with
    | nil =>
      rw [List.append_nil] at hZ
      exact ⟨A3, D3, O, h1, good O (by rw [hZ]; exact rep), h10, .inl rfl⟩
    | cons a l =>
      simp only [List.cons_append, List.cons.injEq] at hYr
      obtain ⟨rfl, h12⟩ := hYr
      have hl : l = [] := by
        cases l with
        | nil => rfl
        | cons a l => simp at h12
      subst hl
      obtain ⟨k1, k2⟩ := replay_ok hinit rep
      have hnum := fold_nums (by rw [k2, hilen]; exact hp) hf
      refine ⟨A3, D3, O', h1, good O' ?_, h10, .inr ⟨by simp, n, hf, hfr⟩⟩
      rw [hZ, replay_app, rep]
      show replay [_] O = _
      rw [replay_one (nums64 hnum), hf]
end Go.Proofs.YtjodkcjlipecdaaGreatDoor

namespace Go.Proofs.YtjodkcjlipecdaaGreatDoor
open Go.RowKit

theorem begin_or (O : POff) (L : PLog) (D : PDisk) (g n : Int) : (∃ c, O.begin L D g n = (O, L, D, c)) ∨
    ∃ O', O.fold ⟨1, g, n, 0, 0⟩ = some O' ∧ (PNote.mk 1 g n 0 0).fresh O ∧ L.e = 0 ∧ O.begin L D g n = O.write L D ⟨1, g, n, 0, 0⟩ := by
  unfold POff.begin
  split
  · exact .inl ⟨_, rfl⟩
  · rename_i h1
    have h1 := Classical.not_not.1 h1
    split
    · exact .inl ⟨_, rfl⟩
    · rename_i h2
      have h2 := Classical.not_not.1 h2
      split
      · exact .inl ⟨_, rfl⟩
      · rename_i h3
        split
        · exact .inl ⟨_, rfl⟩
        · rename_i h4
          refine .inr ⟨{ O with gen := g, next := n }, ?_, fun _ => h4, h2, rfl⟩
          unfold POff.fold
          rw [if_pos rfl, if_neg]
          rintro (h9 | h9 | h9 | h9 | h9 | h9)
          · exact h9 h1.1
          · exact h9 h1.2
          · exact h3 (.inl h9)
          · exact h3 (.inr h9)
          · exact h9 rfl
          · exact h9 rfl

theorem pend_or (O : POff) (L : PLog) (D : PDisk) (pid epoch part frm off : Int) : (∃ c, O.pendOne L D pid epoch part frm off = (O, L, D, c)) ∨
    ∃ O', O.fold ⟨2, pid, epoch, part, off⟩ = some O' ∧ (PNote.mk 2 pid epoch part off).fresh O ∧ L.e = 0 ∧ O.pendOne L D pid epoch part frm off = O.write L D ⟨2, pid, epoch, part, off⟩ := by
  unfold POff.pendOne
  split
  · exact .inl ⟨_, rfl⟩
  · rename_i h1
    have h1 := Classical.not_not.1 h1
    split
    · exact .inl ⟨_, rfl⟩
    · rename_i h2
      have h2 := Classical.not_not.1 h2
      cases hp : O.ofPart part with
      | cons x l => exact .inl ⟨_, rfl⟩
      | nil =>
        dsimp only
        split
        · exact .inl ⟨_, rfl⟩
        · rename_i h3
          have h3 := Classical.not_not.1 h3
          split
          · exact .inl ⟨_, rfl⟩
          · rename_i h4
            refine .inr ⟨{ O with pend := O.pend ++ [⟨pid, epoch, part, off⟩] }, ?_, fun h => (by cases h), h2, rfl⟩
            unfold POff.fold
            rw [if_neg (show ¬ ((2 : Int) = 1) by decide), if_pos rfl, if_neg]
            rintro (h9 | h9 | h9 | h9 | h9)
            · exact h9 h1.1
            · exact h9 h1.2.1
            · exact h9 h1.2.2.2
            · have h9 : off < O.at part := h9
              omega
            · exact h9 hp

theorem done_or (O : POff) (L : PLog) (D : PDisk) (pid epoch : Int) (yes : Bool) : (∃ c, O.done L D pid epoch yes = (O, L, D, c)) ∨
    ∃ O', O.fold ⟨3, pid, epoch, if yes then 1 else 0, 0⟩ = some O' ∧ (PNote.mk 3 pid epoch (if yes then 1 else 0) 0).fresh O ∧ L.e = 0 ∧ O.done L D pid epoch yes = O.write L D ⟨3, pid, epoch, if yes then 1 else 0, 0⟩ := by
  unfold POff.done
  split
  · exact .inl ⟨_, rfl⟩
  · rename_i h1
    have h1 := Classical.not_not.1 h1
    split
    · exact .inl ⟨_, rfl⟩
    · rename_i h2
      have h2 := Classical.not_not.1 h2
      split
      · exact .inl ⟨_, rfl⟩
      · split
        · exact .inl ⟨_, rfl⟩
        · rename_i h4
          refine .inr ⟨{ O with com := if (if yes then (1 : Int) else 0) = 1 then putCom O.com (O.ofPid pid) else O.com, pend := O.pend.filter fun x => !(x.pid == pid) }, ?_, fun h => (by cases h), h2, rfl⟩
          unfold POff.fold
          rw [if_neg (show ¬ ((3 : Int) = 1) by decide), if_neg (show ¬ ((3 : Int) = 2) by decide), if_pos rfl, if_neg]
          rintro (h9 | h9 | h9 | h9)
          · exact h9 h1
          · dsimp only at h9
            cases yes <;> simp at h9
          · exact h9 rfl
          · exact h4 h9

/-- A deed of chapter 11's laws. -/
structure ODeed where
  kind : Int
  a : Int
  epoch : Int
  part : Int
  frm : Int
  off : Int
  yes : Bool
  near : Bool
  keep : List Int

def low (n m : Int) : Int := bits BinOp.and IntKind.i64 n m

def ODeed.aimed (x : ODeed) (com : List Int) (gen next : Int) : ODeed :=
  if x.near = false then x
  else if x.kind < 4 ∧ 0 ≤ x.part ∧ x.part < com.length then { x with frm := com.getD x.part.toNat 0, off := wrap64 (com.getD x.part.toNat 0 + low x.off 15) }
  else if x.kind = 6 then { x with frm := wrap64 (gen + low x.frm 3), off := wrap64 (next + low x.off 3) }
  else x

def ODeed.calls (k : Int) : Prop := k = 0 ∨ k = 1 ∨ k = 2 ∨ k = 3
instance (k : Int) : Decidable (ODeed.calls k) := by unfold ODeed.calls; infer_instance

/-- A deed that is no crash. -/
def POff.does (O : POff) (L : PLog) (D : PDisk) (x : ODeed) : POff × PLog × PDisk × Int :=
  let y := x.aimed O.com O.gen O.next
  if ODeed.calls y.kind then O.pendOne L D y.a y.epoch y.part y.frm y.off
  else if y.kind = 4 ∨ y.kind = 5 then O.done L D y.a y.epoch y.yes
  else if y.kind = 6 then O.begin L D y.frm y.off
  else (O, L, D, 0)

theorem aimed_same (x : ODeed) (com : List Int) (gen next : Int) : (x.aimed com gen next).kind = x.kind ∧ (x.aimed com gen next).a = x.a ∧ (x.aimed com gen next).yes = x.yes := by
  unfold ODeed.aimed
  split
  · exact ⟨rfl, rfl, rfl⟩
  · split
    · exact ⟨rfl, rfl, rfl⟩
    · split <;> exact ⟨rfl, rfl, rfl⟩

/-- Either nothing is done, or a note is written. -/
theorem does_or (O : POff) (L : PLog) (D : PDisk) (x : ODeed) : (∃ c, O.does L D x = (O, L, D, c)) ∨
    ∃ n O', O.fold n = some O' ∧ n.fresh O ∧ L.e = 0 ∧ O.does L D x = O.write L D n ∧ (n.kind = 3 → n.c = 1 → (x.kind = 4 ∨ x.kind = 5) ∧ x.yes = true ∧ n.a = x.a) := by
  obtain ⟨e1, e2, e3⟩ := aimed_same x O.com O.gen O.next
  unfold POff.does
  generalize x.aimed O.com O.gen O.next = y at e1 e2 e3
  dsimp only
  split
  · rcases pend_or O L D y.a y.epoch y.part y.frm y.off with ⟨c, h⟩ | ⟨O', h1, h2, h3, h4⟩
    · exact .inl ⟨c, h⟩
    · exact .inr ⟨_, O', h1, h2, h3, h4, fun h => absurd h (show ¬ ((2 : Int) = 3) by decide)⟩
  · split
    · rename_i hk
      rcases done_or O L D y.a y.epoch y.yes with ⟨c, h⟩ | ⟨O', h1, h2, h3, h4⟩
      · exact .inl ⟨c, h⟩
      · refine .inr ⟨_, O', h1, h2, h3, h4, fun _ hc => ?_⟩
        rw [e1] at hk
        rw [← e3]
        refine ⟨hk, ?_, e2⟩
        dsimp only at hc
        cases hy : y.yes with
        | true => rfl
        | false => rw [hy] at hc; simp at hc
    · split
      · rcases begin_or O L D y.frm y.off with ⟨c, h⟩ | ⟨O', h1, h2, h3, h4⟩
        · exact .inl ⟨c, h⟩
        · exact .inr ⟨_, O', h1, h2, h3, h4, fun h => absurd h (show ¬ ((1 : Int) = 3) by decide)⟩
      · exact .inl ⟨_, rfl⟩

/-- What a deed may turn. -/
def OStep (O O' : POff) (x : ODeed) : Prop := O' = O ∨ ∃ n, O.fold n = some O' ∧ (n.kind = 3 → n.c = 1 → (x.kind = 4 ∨ x.kind = 5) ∧ x.yes = true ∧ n.a = x.a)

/-- What a deed comes to. -/
inductive DoesOut (parts : Nat) (N : Int) (O : POff) (D : PDisk) (x : ODeed) : POff × PLog × PDisk × Int → Prop
  | good (O' : POff) (A' : ALog) (D' : PDisk) (c : Int) (good : OGood parts N O' A' D') (step : OStep O O' x) (fuse : D.fuse = -1 → D'.fuse = -1) : DoesOut parts N O D x (O', A'.toP, D', c)
  | dark (A' : ALog) (D' : PDisk) (dark : ODark parts N O A' D') (was : D.fuse ≠ -1) : DoesOut parts N O D x (O, A'.toP, D', 4)

theorem OGood.does {parts : Nat} {N : Int} {O : POff} {A : ALog} {D : PDisk} (h : OGood parts N O A D) (hp : parts ≤ 4) (x : ODeed) : DoesOut parts N O D x (O.does A.toP D x) := by
  rcases does_or O A.toP D x with ⟨c, h1⟩ | ⟨n, O', h1, h2, _, h3, h4⟩
  · rw [h1]
    exact .good O A D c h (.inl rfl) id
  · rw [h3]
    have hw := h.write hp h1 h2
    generalize O.write A.toP D n = r at hw
    cases hw with
    | ok A' D' good fuse next => exact .good O' A' D' 0 good (.inr ⟨n, h1, h4⟩) fuse
    | no A' D' c good hc fuse => exact .good O A' D' c good (.inl rfl) fuse
    | dark A' D' dark was => exact .dark A' D' dark was
end Go.Proofs.YtjodkcjlipecdaaGreatDoor

namespace Go.Proofs.YtjodkcjlipecdaaGreatDoor
open Go.RowKit

/-- A call's outcome is good. -/
def GoodOut (parts : Nat) (N : Int) (r : POff × PLog × PDisk × Int) : Prop := ∃ A', r.2.1 = A'.toP ∧ OGood parts N r.1 A' r.2.2.1 ∧ r.2.2.1.fuse = -1

theorem OGood.good_write {parts : Nat} {N : Int} {O O' : POff} {A : ALog} {D : PDisk} {n : PNote} (h : OGood parts N O A D) (hp : parts ≤ 4) (hfu : D.fuse = -1) (hf : O.fold n = some O') (hfr : n.fresh O) : GoodOut parts N (O.write A.toP D n) := by
  have hw := h.write hp hf hfr
  generalize O.write A.toP D n = r at hw
  cases hw with
  | ok A' D' good fuse next => exact ⟨A', rfl, good, fuse hfu⟩
  | no A' D' c good hc fuse => exact ⟨A', rfl, good, fuse hfu⟩
  | dark A' D' dark was => exact absurd hfu was

theorem OGood.pendOne {parts : Nat} {N : Int} {O : POff} {A : ALog} {D : PDisk} (h : OGood parts N O A D) (hp : parts ≤ 4) (hfu : D.fuse = -1) (pid epoch part frm off : Int) : GoodOut parts N (O.pendOne A.toP D pid epoch part frm off) := by
  rcases pend_or O A.toP D pid epoch part frm off with ⟨c, h1⟩ | ⟨O', h1, h2, _, h3⟩
  · rw [h1]; exact ⟨A, rfl, h, hfu⟩
  · rw [h3]; exact h.good_write hp hfu h1 h2

theorem OGood.done {parts : Nat} {N : Int} {O : POff} {A : ALog} {D : PDisk} (h : OGood parts N O A D) (hp : parts ≤ 4) (hfu : D.fuse = -1) (pid epoch : Int) (yes : Bool) : GoodOut parts N (O.done A.toP D pid epoch yes) := by
  rcases done_or O A.toP D pid epoch yes with ⟨c, h1⟩ | ⟨O', h1, h2, _, h3⟩
  · rw [h1]; exact ⟨A, rfl, h, hfu⟩
  · rw [h3]; exact h.good_write hp hfu h1 h2

theorem OGood.begin {parts : Nat} {N : Int} {O : POff} {A : ALog} {D : PDisk} (h : OGood parts N O A D) (hp : parts ≤ 4) (hfu : D.fuse = -1) (g n : Int) : GoodOut parts N (O.begin A.toP D g n) := by
  rcases begin_or O A.toP D g n with ⟨c, h1⟩ | ⟨O', h1, h2, _, h3⟩
  · rw [h1]; exact ⟨A, rfl, h, hfu⟩
  · rw [h3]; exact h.good_write hp hfu h1 h2

def aO : ALog := ⟨offName, [], 0, 0⟩
def dO : PDisk := ⟨[], 1000, -1, false⟩

theorem dO_wf : dO.WF 1000 := ⟨by simp [dO, Sorted], by simp [dO], by simp [dO], by decide, by decide +kernel, by decide, by decide, by decide⟩
theorem aO_inv : Inv aO dO := by
  refine ⟨by decide, Int.le_refl _, (by decide : (0 : Int) ≤ 1099511627776), trivial, fun s hs => by simp [aO] at hs, rfl, ?_, fun s f hs => by simp [aO] at hs, fun _ => rfl⟩
  intro f hf
  have hf : f ∈ ([] : List PFile).dropLast := hf
  cases hf
theorem dO_open : dO.openLog offName = (aO.toP, dO, 0) := by kernel_rfl

theorem new_good (parts : Nat) : OGood parts 1000 (POff.init parts) aO dO :=
  ⟨aO_inv, dO_wf, rfl, rfl, rfl, rfl, POff.init_ok parts, by simp [POff.init], rfl, rfl⟩

/-- Chapter 11's example. -/
def w1O : POff × PLog × PDisk × Int := (POff.init 2).pendOne aO.toP dO 1 1 0 0 5
def w2O : POff × PLog × PDisk × Int := w1O.1.pendOne w1O.2.1 w1O.2.2.1 2 1 0 0 7
def w3O : POff × PLog × PDisk × Int := w2O.1.done w2O.2.1 w2O.2.2.1 1 1 true
theorem w1_code : w1O.2.2.2 = 0 := by kernel_rfl
theorem w1_fetch : w1O.1.fetch w1O.2.1 0 = (0, 10) := by kernel_rfl
theorem w2_code : w2O.2.2.2 = 10 := by kernel_rfl
theorem w3_code : w3O.2.2.2 = 0 := by kernel_rfl
theorem w3_fetch : w3O.1.fetch w3O.2.1 0 = (5, 0) := by kernel_rfl
theorem w4_code : (w3O.1.pendOne w3O.2.1 w3O.2.2.1 2 1 0 0 7).2.2.2 = 12 := by kernel_rfl
theorem w1_good : GoodOut 2 1000 w1O := (new_good 2).pendOne (by decide) rfl 1 1 0 0 5
theorem w2_good : GoodOut 2 1000 w2O := by
  obtain ⟨A, h1, h2, h3⟩ := w1_good
  unfold w2O
  rw [h1]
  exact h2.pendOne (by decide) h3 2 1 0 0 7
theorem w3_good : GoodOut 2 1000 w3O := by
  obtain ⟨A, h1, h2, h3⟩ := w2_good
  unfold w3O
  rw [h1]
  exact h2.done (by decide) h3 1 1 true
end Go.Proofs.YtjodkcjlipecdaaGreatDoor
