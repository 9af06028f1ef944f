/-
  A region that draws its order, walked in one order: what yields its value in every world of a class may be taken as it comes; what changes the world stands alone when it comes up; what is guarded off is passed by. No conditions of our own.
  A region that draws its order and ends in one operation that waits for all others: walked in one order; of what that last one leaves nothing is asked but what follows. No conditions of our own.
-/
import Derived.Deep.RegionHeld
import Derived.StillTail
set_option maxRecDepth 100000
namespace Go.Proofs.YtgjkjkeeblbjlaaGreatDoor
open Go

section
variable {P : Program} {ops : Array Oper} {Q : Exit → Act → World → Prop} {S : World → Prop} {steps : List Nat} {md : Region.Mode}

/-- The walk, in that order. -/
def wpOrd (P : Program) (ops : Array Oper) (S : World → Prop) (steps : List Nat) (Q : Exit → Act → World → Prop) : List Nat → Act → World → Prop
  | [], a, w => Q .normal a w
  | i :: r, a, w => match ops[i]? with
    | none => False
    | some o =>
      if Region.wanted o (yielded ops a.tmps) = true then
        if steps.contains i = true then o.wp P a w (fun a' w' => S w' ∧ wpOrd P ops S steps Q r a' w') Q
        else ∃ v, (∀ w, S w → (execOp a.eval o).run P w = .ok (.value v) w) ∧ wpOrd P ops S steps Q r (a.put o.dst v) w
      else wpOrd P ops S steps Q r (a.put o.dst undef) w

/-- Does that order serve for all? -/
def ordB (md : Region.Mode) (ops : Array Oper) (steps : List Nat) : List Nat → Array Bool → Bool
  | [], listed => (Region.ready md ops listed).isEmpty
  | i :: r, listed => (if steps.contains i then (Region.ready md ops listed == [i]) else Region.free md ops listed i && (Region.ready md ops listed).contains i) && ordB md ops steps r (listed.setIfInBounds i true)

theorem put_panic (hQ : ∀ (c : List PanicEntry) (t : Tmp) (v : Value) (a : Act) (w : World), Q (.panic c) (a.put (some t) v) w → Q (.panic c) a w) (c : List PanicEntry) (d : Option Tmp) (v : Value) (a : Act) (w : World) (h : Q (.panic c) (a.put d v) w) : Q (.panic c) a w := by
  cases d with
  | none => exact h
  | some t => exact hQ c t v a w h

theorem wpOrd.held (hsel : Region.noSelect ops = true) (hQ : ∀ (c : List PanicEntry) (t : Tmp) (v : Value) (a : Act) (w : World), Q (.panic c) (a.put (some t) v) w → Q (.panic c) a w) :
    ∀ (ord : List Nat) (listed : Array Bool) (a : Act) (w : World), S w → ordB md ops steps ord listed = true → wpOrd P ops S steps Q ord a w → wpAnyH P md ops Q S ord.length listed a w
  | [], listed, a, w, _, hB, h => ⟨by simpa [ordB] using hB, h⟩
  | i :: r, listed, a, w, hS, hB, h => by
    rw [ordB, Bool.and_eq_true] at hB
    obtain ⟨hB1, hB2⟩ := hB
    rw [wpOrd] at h
    cases ho : ops[i]? with
    | none => rw [ho] at h; exact h.elim
    | some o =>
      rw [ho] at h
      dsimp only at h
      by_cases hst : steps.contains i = true
      · rw [if_pos hst] at hB1
        have hr : Region.ready md ops listed = [i] := by simpa using hB1
        refine wpAnyH_all hr (by simp) (fun j hj => ?_)
        simp only [List.mem_singleton] at hj
        subst hj
        unfold wpOp
        simp only [ho]
        split
        · rename_i hw
          rw [if_pos hw, if_pos hst] at h
          exact .inl (Oper.wp_mono (fun a' w' hh => ⟨hh.1, wpOrd.held hsel hQ r _ a' w' hh.1 hB2 hh.2⟩) h)
        · rename_i hw
          rw [if_neg hw] at h
          exact ⟨hS, wpOrd.held hsel hQ r _ _ w hS hB2 h⟩
      · rw [if_neg hst, Bool.and_eq_true] at hB1
        by_cases hw : Region.wanted o (yielded ops a.tmps) = true
        · rw [if_pos hw, if_neg hst] at h
          obtain ⟨v, hv, hr⟩ := h
          exact wpAnyH_take ho hsel hB1.1 hB1.2 (fun c a w => put_panic hQ c o.dst v a w) (.inl ⟨hw, hv⟩) hS (wpOrd.held hsel hQ r _ _ w hS hB2 hr)
        · rw [if_neg hw] at h
          exact wpAnyH_take ho hsel hB1.1 hB1.2 (fun c a w => put_panic hQ c o.dst undef a w) (.inr ⟨by simpa using hw, rfl⟩) hS (wpOrd.held hsel hQ r _ _ w hS hB2 h)

theorem wp_region_ord {id : Nat} {a : Act} {w : World} (S : World → Prop) (steps ord : List Nat) (hm : P.follows .mixedOrders = true)
    (hB : (ord.length == ops.size && Region.noSelect ops && ordB .any ops steps ord (Array.replicate ops.size false)) = true)
    (hQ : ∀ (c : List PanicEntry) (t : Tmp) (v : Value) (a : Act) (w : World), Q (.panic c) (a.put (some t) v) w → Q (.panic c) a w) (hS : S w.drew)
    (h : S w.drew → wpOrd P ops S steps Q ord a w.drew) : (Code.region id ops true).wp P Q a w := by
  simp only [Bool.and_eq_true, beq_iff_eq] at hB
  obtain ⟨⟨h1, h2⟩, h3⟩ := hB
  refine wp_region_held_drew hm hS (fun hS2 => ?_)
  rw [← h1]
  rw [← h1] at h3
  exact wpOrd.held h2 hQ ord _ a _ hS2 h3 (h hS2)

/-- The walk in a given order, kept shut. -/
structure OrdG (P : Program) (ops : Array Oper) (S : World → Prop) (steps : List Nat) (Q : Exit → Act → World → Prop) (l : List Nat) (a : Act) (w : World) : Prop where
  out : wpOrd P ops S steps Q l a w

theorem wp_region_perm {id : Nat} {a : Act} {w : World} (S : World → Prop) (steps ord : List Nat) (hm : P.follows .mixedOrders = true)
    (hB : (ord.length == ops.size && Region.noSelect ops && ordB .any ops steps ord (Array.replicate ops.size false)) = true)
    (hQ : ∀ (c : List PanicEntry) (t : Tmp) (v : Value) (a : Act) (w : World), Q (.panic c) (a.put (some t) v) w → Q (.panic c) a w) (hS : S w.drew)
    (h : S w.drew → OrdG P ops S steps Q ord a w.drew) : (Code.region id ops true).wp P Q a w :=
  wp_region_ord S steps ord hm hB hQ hS (fun hS2 => (h hS2).out)

theorem ord_nil {a : Act} {w : World} (h : Q .normal a w) : OrdG P ops S steps Q [] a w := ⟨h⟩

theorem ord_skip {i : Nat} {r : List Nat} {o : Oper} {a : Act} {w : World} (ho : ops[i]? = some o) (hw : Region.wanted o (yielded ops a.tmps) = false) (h : OrdG P ops S steps Q r (a.put o.dst undef) w) : OrdG P ops S steps Q (i :: r) a w := by
  refine ⟨?_⟩
  rw [wpOrd, ho]
  dsimp only
  rw [if_neg (by rw [hw]; decide)]
  exact h.out

theorem ord_take {i : Nat} {r : List Nat} {o : Oper} {v : Value} {a : Act} {w : World} (ho : ops[i]? = some o) (hw : Region.wanted o (yielded ops a.tmps) = true) (hs : steps.contains i = false) (hy : ∀ w, S w → (execOp a.eval o).run P w = .ok (.value v) w)
    (h : OrdG P ops S steps Q r (a.put o.dst v) w) : OrdG P ops S steps Q (i :: r) a w := by
  refine ⟨?_⟩
  rw [wpOrd, ho]
  dsimp only
  rw [if_pos hw, if_neg (by rw [hs]; decide)]
  exact ⟨v, hy, h.out⟩

theorem ord_step {i : Nat} {r : List Nat} {o : Oper} {a : Act} {w : World} (ho : ops[i]? = some o) (hw : Region.wanted o (yielded ops a.tmps) = true) (hs : steps.contains i = true)
    (h : ∀ K' : Act → World → Prop, Shut (∀ a w, S w → (S w → OrdG P ops S steps Q r a w) → K' a w) → Oper.wp P o a w K' Q) : OrdG P ops S steps Q (i :: r) a w := by
  refine ⟨?_⟩
  rw [wpOrd, ho]
  dsimp only
  rw [if_pos hw, if_pos hs]
  exact h _ (fun a w h1 h2 => ⟨h1, (h2 h1).out⟩)

/-- The walk in the order of the text. -/
def wpLex (P : Program) (ops : Array Oper) (S : World → Prop) (steps : List Nat) (Q : Exit → Act → World → Prop) : Nat → List Oper → Act → World → Prop
  | _, [], a, w => Q .normal a w
  | i, o :: r, a, w =>
      if Region.wanted o (yielded ops a.tmps) = true then
        if steps.contains i = true then o.wp P a w (fun a' w' => S w' ∧ wpLex P ops S steps Q (i + 1) r a' w') Q
        else ∃ v, (∀ w, S w → (execOp a.eval o).run P w = .ok (.value v) w) ∧ wpLex P ops S steps Q (i + 1) r (a.put o.dst v) w
      else wpLex P ops S steps Q (i + 1) r (a.put o.dst undef) w

theorem wpLex.ord : ∀ (l : List Oper) (i : Nat) (a : Act) (w : World), ops.toList.drop i = l → wpLex P ops S steps Q i l a w → wpOrd P ops S steps Q (List.range' i l.length) a w
  | [], _, _, _, _, h => h
  | o :: r, i, a, w, hl, h => by
    have hi : ops[i]? = some o := by
      have h9 := congrArg (fun l => l[0]?) hl
      simpa [List.getElem?_drop] using h9
    have hr : ops.toList.drop (i + 1) = r := by
      have h9 := congrArg (List.drop 1) hl
      simpa [List.drop_drop] using h9
    rw [wpLex] at h
    rw [List.length_cons, List.range'_succ, wpOrd, hi]
    dsimp only
    by_cases hw : Region.wanted o (yielded ops a.tmps) = true
    · rw [if_pos hw] at h ⊢
      by_cases hst : steps.contains i = true
      · rw [if_pos hst] at h ⊢
        exact Oper.wp_mono (fun a' w' hh => ⟨hh.1, wpLex.ord r (i + 1) a' w' hr hh.2⟩) h
      · rw [if_neg hst] at h ⊢
        obtain ⟨v, h1, h2⟩ := h
        exact ⟨v, h1, wpLex.ord r (i + 1) _ w hr h2⟩
    · rw [if_neg hw] at h ⊢
      exact wpLex.ord r (i + 1) _ w hr h

/-- The walk, kept shut (what is a definition would be laid open by the elaborator at each step). -/
structure Lex (P : Program) (ops : Array Oper) (S : World → Prop) (steps : List Nat) (Q : Exit → Act → World → Prop) (i : Nat) (l : List Oper) (a : Act) (w : World) : Prop where
  out : wpLex P ops S steps Q i l a w

theorem wp_region_lex {id : Nat} {a : Act} {w : World} {l : List Oper} (S : World → Prop) (steps : List Nat) (hm : P.follows .mixedOrders = true)
    (hB : (Region.noSelect l.toArray && ordB .any l.toArray steps (List.range' 0 l.length) (Array.replicate l.length false)) = true)
    (hQ : ∀ (c : List PanicEntry) (t : Tmp) (v : Value) (a : Act) (w : World), Q (.panic c) (a.put (some t) v) w → Q (.panic c) a w) (hS : S w.drew)
    (h : S w.drew → Lex P l.toArray S steps Q 0 l a w.drew) : (Code.region id l.toArray true).wp P Q a w := by
  refine wp_region_ord S steps (List.range' 0 l.length) hm ?_ hQ hS (fun hS2 => wpLex.ord l 0 a _ (by simp) (h hS2).out)
  simpa using hB

theorem lex_nil {i : Nat} {a : Act} {w : World} (h : Q .normal a w) : Lex P ops S steps Q i [] a w := ⟨h⟩

theorem lex_skip {i : Nat} {r : List Oper} {o : Oper} {a : Act} {w : World} (hw : Region.wanted o (yielded ops a.tmps) = false) (h : Lex P ops S steps Q (i + 1) r (a.put o.dst undef) w) : Lex P ops S steps Q i (o :: r) a w := by
  refine ⟨?_⟩
  rw [wpLex, if_neg (by rw [hw]; decide)]
  exact h.out

theorem lex_take {i : Nat} {r : List Oper} {o : Oper} {v : Value} {a : Act} {w : World} (hw : Region.wanted o (yielded ops a.tmps) = true) (hs : steps.contains i = false) (hy : ∀ w, S w → (execOp a.eval o).run P w = .ok (.value v) w)
    (h : Lex P ops S steps Q (i + 1) r (a.put o.dst v) w) : Lex P ops S steps Q i (o :: r) a w := by
  refine ⟨?_⟩
  rw [wpLex, if_pos hw, if_neg (by rw [hs]; decide)]
  exact ⟨v, hy, h.out⟩

theorem lex_step {i : Nat} {r : List Oper} {o : Oper} {a : Act} {w : World} (hw : Region.wanted o (yielded ops a.tmps) = true) (hs : steps.contains i = true)
    (h : ∀ K' : Act → World → Prop, Shut (∀ a w, S w → (S w → Lex P ops S steps Q (i + 1) r a w) → K' a w) → Oper.wp P o a w K' Q) : Lex P ops S steps Q i (o :: r) a w := by
  refine ⟨?_⟩
  rw [wpLex, if_pos hw, if_pos hs]
  exact h _ (fun a w h1 h2 => ⟨h1, (h2 h1).out⟩)
end
end Go.Proofs.YtgjkjkeeblbjlaaGreatDoor

namespace Go.Proofs.YtgjkjkeeblbjlaaGreatDoor
open Go

section
variable {P : Program} {ops : Array Oper} {Q : Exit → Act → World → Prop} {S : World → Prop} {steps : List Nat} {md : Region.Mode} {n : Nat}

def wpSink (P : Program) (md : Region.Mode) (ops : Array Oper) (Q : Exit → Act → World → Prop) (S : World → Prop) (n : Nat) : Nat → Array Bool → Act → World → Prop
  | 0, listed, a, w => Region.ready md ops listed = [n] ∧ Region.ready md ops (listed.setIfInBounds n true) = [] ∧ wpOp P ops Q n (fun a' w' => Q .normal a' w') a w
  | f + 1, listed, a, w => Region.ready md ops listed ≠ [] ∧ ∀ i ∈ Region.ready md ops listed, i < n ∧ wpOp P ops Q i (fun a' w' => S w' ∧ wpSink P md ops Q S n f (listed.setIfInBounds i true) a' w') a w

theorem wpAny_of_sink : ∀ (f : Nat) (listed : Array Bool) (a : Act) (w : World), wpSink P md ops Q S n f listed a w → wpAny P md ops Q (f + 1) listed a w
  | 0, listed, a, w, h => by
    obtain ⟨h1, h2, h3⟩ := h
    refine ⟨fun h0 => by rw [h0] at h1; simp at h1, fun i hi => ?_⟩
    rw [h1] at hi
    simp only [List.mem_singleton] at hi
    subst hi
    exact wpOp_mono (fun a' w' hq => ⟨h2, hq⟩) h3
  | f + 1, listed, a, w, h => ⟨fun h0 => absurd h0 h.1, fun i hi => wpOp_mono (fun a' w' h' => wpAny_of_sink f _ a' w' h'.2) (h.2 i hi).2⟩

theorem wpSink_first {i : Nat} {oi : Oper} {v : Value} (hi : ops[i]? = some oi) (hsel : ∀ (j : Nat) (o : Oper) cs b, ops[j]? = some o → o.op ≠ .select cs b)
    (hQ : ∀ c a w, Q (.panic c) (a.put oi.dst v) w → Q (.panic c) a w) (hs : Region.sinkB md ops n = true) (hc : Region.chainB md ops n = true) (hn : n < ops.size) (hin : i < n) :
    ∀ (f : Nat) (listed : Array Bool) (a : Act) (w : World), HeadInv md ops n listed →
      (∀ j oj, ops[j]? = some oj → j ≠ i → listed.getD j true = false → (∀ e ∈ oj.after, Region.binds md e = true → e.on ≠ i) → oi.apart ops oj = true) →
      i ∈ Region.ready md ops listed → YieldsIf P ops S oi v a → S w →
      wpSink P md ops Q S n f (listed.setIfInBounds i true) (a.put oi.dst v) w → wpSink P md ops Q S n (f + 1) listed a w := by
  intro f
  induction f with
  | zero =>
    intro listed a w inv _ hr hy hS H
    have hun := (mem_ready.1 hr).1
    refine ⟨fun h => (by rw [h] at hr; cases hr), fun j hj => ?_⟩
    by_cases hji : j = i
    · subst hji; exact ⟨hin, hy.wpOp hi hS ⟨hS, H⟩⟩
    · have h1 := ready_mono hj hji
      rw [H.1] at h1
      simp only [List.mem_singleton] at h1
      subst h1
      exact absurd hj (tail_waits hs hc hn inv _ i rfl hin hun j (Nat.le_refl _))
  | succ f ih =>
    intro listed a w inv hfree hr hy hS H
    have hun := (mem_ready.1 hr).1
    refine ⟨fun h => (by rw [h] at hr; cases hr), fun j hj => ?_⟩
    by_cases hji : j = i
    · subst hji; exact ⟨hin, hy.wpOp hi hS ⟨hS, H⟩⟩
    · have hjn : j < n := Nat.lt_of_not_le fun h => tail_waits hs hc hn inv _ i rfl hin hun j h hj
      refine ⟨hjn, ?_⟩
      have h1 := (H.2 j (ready_mono hj hji)).2
      obtain ⟨hjun, oj, hoj, hall⟩ := mem_ready.1 hj
      have hnot : ∀ e ∈ oj.after, Region.binds md e = true → e.on ≠ i := fun e he hb heq => by
        have h1 := hall e he hb
        rw [heq, getD_both hun] at h1
        cases h1
      have h2 := wpOp_putIf hoj (hfree j oj hoj hji hjun hnot) (fun cs b => hsel i oi cs b hi) (fun cs b => hsel j oj cs b hoj) hQ hy h1
      have hfree' : ∀ k ok, ops[k]? = some ok → k ≠ i → (listed.setIfInBounds j true).getD k true = false →
          (∀ e ∈ ok.after, Region.binds md e = true → e.on ≠ i) → oi.apart ops ok = true := fun k ok hk hki hun hno => by
        refine hfree k ok hk hki ?_ hno
        by_cases hjk : j = k
        · subst hjk; exact hjun
        · rw [getD_set_ne true hjk] at hun; exact hun
      refine wpOp_mono (fun a' w' h3 => ⟨h3.2.1, ih (listed.setIfInBounds j true) a' w' (inv.set hj hjn) hfree' (ready_mono hr (Ne.symm hji)) h3.1 h3.2.1 ?_⟩) h2
      rw [Array.setIfInBounds_comm _ _ hji]
      exact h3.2.2

/-- The walk, in a given order, the last one behind it. -/
def wpOrdT (P : Program) (ops : Array Oper) (S : World → Prop) (steps : List Nat) (Q : Exit → Act → World → Prop) (n : Nat) : List Nat → Act → World → Prop
  | [], a, w => wpOp P ops Q n (fun a' w' => Q .normal a' w') a w
  | i :: r, a, w => match ops[i]? with
    | none => False
    | some o =>
      if Region.wanted o (yielded ops a.tmps) = true then
        if steps.contains i = true then o.wp P a w (fun a' w' => S w' ∧ wpOrdT P ops S steps Q n r a' w') Q
        else ∃ v, (∀ w, S w → (execOp a.eval o).run P w = .ok (.value v) w) ∧ wpOrdT P ops S steps Q n r (a.put o.dst v) w
      else wpOrdT P ops S steps Q n r (a.put o.dst undef) w

def ordTB (md : Region.Mode) (ops : Array Oper) (steps : List Nat) (n : Nat) : List Nat → Array Bool → Bool
  | [], listed => (Region.ready md ops listed == [n]) && (Region.ready md ops (listed.setIfInBounds n true)).isEmpty
  | i :: r, listed => (if steps.contains i then (Region.ready md ops listed == [i]) else Region.free md ops listed i && (Region.ready md ops listed).contains i) && decide (i < n) && ordTB md ops steps n r (listed.setIfInBounds i true)

theorem wpOrdT.sink (hsel : Region.noSelect ops = true) (hs : Region.sinkB md ops n = true) (hc : Region.chainB md ops n = true) (hn : n < ops.size)
    (hQ : ∀ (c : List PanicEntry) (t : Tmp) (v : Value) (a : Act) (w : World), Q (.panic c) (a.put (some t) v) w → Q (.panic c) a w) :
    ∀ (ord : List Nat) (listed : Array Bool) (a : Act) (w : World), HeadInv md ops n listed → S w → ordTB md ops steps n ord listed = true → wpOrdT P ops S steps Q n ord a w → wpSink P md ops Q S n ord.length listed a w
  | [], listed, a, w, _, _, hB, h => by
    rw [ordTB, Bool.and_eq_true] at hB
    exact ⟨by simpa using hB.1, by simpa using hB.2, h⟩
  | i :: r, listed, a, w, inv, hS, hB, h => by
    rw [ordTB, Bool.and_eq_true, Bool.and_eq_true] at hB
    obtain ⟨⟨hB1, hin⟩, hB2⟩ := hB
    have hin : i < n := by simpa using hin
    rw [wpOrdT] at h
    cases ho : ops[i]? with
    | none => rw [ho] at h; exact h.elim
    | some o =>
      rw [ho] at h
      dsimp only at h
      by_cases hst : steps.contains i = true
      · rw [if_pos hst] at hB1
        have hr : Region.ready md ops listed = [i] := by simpa using hB1
        have hmem : i ∈ Region.ready md ops listed := by rw [hr]; simp
        refine ⟨by rw [hr]; simp, fun j hj => ?_⟩
        rw [hr] at hj
        simp only [List.mem_singleton] at hj
        subst hj
        refine ⟨hin, ?_⟩
        unfold wpOp
        simp only [ho]
        split
        · rename_i hw
          rw [if_pos hw, if_pos hst] at h
          exact .inl (Oper.wp_mono (fun a' w' hh => ⟨hh.1, wpOrdT.sink hsel hs hc hn hQ r _ a' w' (inv.set hmem hin) hh.1 hB2 hh.2⟩) h)
        · rename_i hw
          rw [if_neg hw] at h
          exact ⟨hS, wpOrdT.sink hsel hs hc hn hQ r _ _ w (inv.set hmem hin) hS hB2 h⟩
      · rw [if_neg hst, Bool.and_eq_true] at hB1
        have hmem : i ∈ Region.ready md ops listed := by simpa using hB1.2
        by_cases hw : Region.wanted o (yielded ops a.tmps) = true
        · rw [if_pos hw, if_neg hst] at h
          obtain ⟨v, hv, hr⟩ := h
          exact wpSink_first ho (Region.noSelect_spec hsel) (fun c a w => put_panic hQ c o.dst v a w) hs hc hn hin r.length listed a w inv (Region.free_spec ho hB1.1) hmem (.inl ⟨hw, hv⟩) hS
            (wpOrdT.sink hsel hs hc hn hQ r _ _ w (inv.set hmem hin) hS hB2 hr)
        · rw [if_neg hw] at h
          exact wpSink_first ho (Region.noSelect_spec hsel) (fun c a w => put_panic hQ c o.dst undef a w) hs hc hn hin r.length listed a w inv (Region.free_spec ho hB1.1) hmem (.inr ⟨by simpa using hw, rfl⟩) hS
            (wpOrdT.sink hsel hs hc hn hQ r _ _ w (inv.set hmem hin) hS hB2 h)

/-- Kept shut. -/
structure OrdT (P : Program) (ops : Array Oper) (S : World → Prop) (steps : List Nat) (Q : Exit → Act → World → Prop) (n : Nat) (l : List Nat) (a : Act) (w : World) : Prop where
  out : wpOrdT P ops S steps Q n l a w

theorem wp_region_last {id : Nat} {a : Act} {w : World} (S : World → Prop) (n : Nat) (steps ord : List Nat) (hm : P.follows .mixedOrders = true)
    (hB : (ord.length == n && (ops.size == n + 1) && Region.noSelect ops && Region.sinkB .any ops n && Region.chainB .any ops n && ordTB .any ops steps n ord (Array.replicate ops.size false)) = true)
    (hQ : ∀ (c : List PanicEntry) (t : Tmp) (v : Value) (a : Act) (w : World), Q (.panic c) (a.put (some t) v) w → Q (.panic c) a w) (hS : S w.drew)
    (h : S w.drew → OrdT P ops S steps Q n ord a w.drew) : (Code.region id ops true).wp P Q a w := by
  simp only [Bool.and_eq_true, beq_iff_eq] at hB
  obtain ⟨⟨⟨⟨⟨h1, h2⟩, h3⟩, h4⟩, h5⟩, h6⟩ := hB
  have inv0 : HeadInv .any ops n (Array.replicate ops.size false) :=
    ⟨by simp, fun j oj _ hl => (by rw [getD_replicate_false] at hl; cases hl), fun t _ ht => getD_in (by simpa using ht) (getD_replicate_false _ _)⟩
  refine wp_region_any hm ?_
  have hw := wpAny_of_sink _ _ _ _ (wpOrdT.sink (P := P) (md := .any) h3 h4 h5 (by omega) hQ ord _ a _ inv0 hS h6 (h hS).out)
  rw [h1, ← h2] at hw
  exact hw

theorem last_step {a : Act} {w : World} {o : Oper} (ho : ops[n]? = some o) (hw : Region.wanted o (yielded ops a.tmps) = true) (h : ∀ K' : Act → World → Prop, (∀ a w, Q .normal a w → K' a w) → Oper.wp P o a w K' Q) : OrdT P ops S steps Q n [] a w := by
  refine ⟨?_⟩
  show wpOp P ops Q n _ a w
  unfold wpOp
  simp only [ho]
  rw [if_pos hw]
  exact .inl (h _ (fun _ _ h => h))

theorem last_skip {i : Nat} {r : List Nat} {o : Oper} {a : Act} {w : World} (ho : ops[i]? = some o) (hw : Region.wanted o (yielded ops a.tmps) = false) (h : OrdT P ops S steps Q n r (a.put o.dst undef) w) : OrdT P ops S steps Q n (i :: r) a w := by
  refine ⟨?_⟩
  rw [wpOrdT, ho]
  dsimp only
  rw [if_neg (by rw [hw]; decide)]
  exact h.out

theorem last_take {i : Nat} {r : List Nat} {o : Oper} {v : Value} {a : Act} {w : World} (ho : ops[i]? = some o) (hw : Region.wanted o (yielded ops a.tmps) = true) (hs : steps.contains i = false) (hy : ∀ w, S w → (execOp a.eval o).run P w = .ok (.value v) w)
    (h : OrdT P ops S steps Q n r (a.put o.dst v) w) : OrdT P ops S steps Q n (i :: r) a w := by
  refine ⟨?_⟩
  rw [wpOrdT, ho]
  dsimp only
  rw [if_pos hw, if_neg (by rw [hs]; decide)]
  exact ⟨v, hy, h.out⟩

theorem last_law {i : Nat} {r : List Nat} {o : Oper} {a : Act} {w : World} (ho : ops[i]? = some o) (hw : Region.wanted o (yielded ops a.tmps) = true) (hs : steps.contains i = true)
    (h : ∀ K' : Act → World → Prop, Shut (∀ a w, S w → (S w → OrdT P ops S steps Q n r a w) → K' a w) → Oper.wp P o a w K' Q) : OrdT P ops S steps Q n (i :: r) a w := by
  refine ⟨?_⟩
  rw [wpOrdT, ho]
  dsimp only
  rw [if_pos hw, if_pos hs]
  exact h _ (fun a w h1 h2 => ⟨h1, (h2 h1).out⟩)
end
end Go.Proofs.YtgjkjkeeblbjlaaGreatDoor
