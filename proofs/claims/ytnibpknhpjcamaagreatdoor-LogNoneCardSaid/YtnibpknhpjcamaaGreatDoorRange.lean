/-
  A law for 'for .. := range f': over an iterator that may write some blocks of its own between two rounds. No conditions of our own.
-/
import Derived.Test.YtnibpknhpjcamaaGreatDoorHeap
import Derived.RangeFuncBound
import Derived.RangeFuncCalls
import Derived.RangeFuncLeaves
import Derived.RangeFuncNested
namespace Go.Proofs.YtnibpknhpjcamaaGreatDoor
open Go.RowKit

variable {F : Fence} {n : Nat} {P : Program}

/-- The blocks in S lie in B as they lay in A, and no block has gone. -/
structure Kept (S : Nat → Prop) (A B : World) : Prop where
  size : A.heap.size ≤ B.heap.size
  block : ∀ k, S k → k < A.heap.size → B.heap[k]? = A.heap[k]?

theorem Kept.refl (S : Nat → Prop) (A : World) : Kept S A A := ⟨Nat.le_refl _, fun _ _ _ => rfl⟩
theorem Kept.trans {S : Nat → Prop} {A B C : World} (h : Kept S A B) (k : Kept S B C) : Kept S A C :=
  ⟨Nat.le_trans h.size k.size, fun i hi hl => (k.block i hi (Nat.lt_of_lt_of_le hl h.size)).trans (h.block i hi hl)⟩
theorem Kept.of_fr {S T : Nat → Prop} {A B : World} (h : Fr T A B) (hd : ∀ k, S k → ¬ T k) : Kept S A B :=
  ⟨h.size, fun k hk hl => h.block k hl (hd k hk)⟩
theorem Kept.mono {S S' : Nat → Prop} {A B : World} (h : Kept S A B) (hs : ∀ k, S' k → S k) : Kept S' A B :=
  ⟨h.size, fun k hk hl => h.block k (hs k hk) hl⟩

/-- **What a range over an iterator may count on:** it hands out xs in order, and writes no block that lay before but those in S. -/
def It {α : Type} (F : Fence) (n : Nat) (P : Program) (g : Nat) (lb : Array Value) (S : Nat → Prop) (encs : α → Array Value) (xs : List α) (w : World) : Prop :=
  ∀ (l : Nat) (J Jx : List α → World → Prop) (W : World), Below w.heap.size w W →
    (∀ s A B, J s A → Fr S A B → J s B) → (∀ s A B, Jx s A → Fr S A B → Jx s B) →
    (∀ pre x W1, J pre W1 → (pre ++ [x]) <+: xs → YieldAt F (n - 1) P l (encs x) W1 fun e W' =>
      (e = .returned (.bool true) ∧ J (pre ++ [x]) W' ∧ Kept S W1 W') ∨ (e = .returned (.bool false) ∧ Jx (pre ++ [x]) W' ∧ Kept S W1 W')) →
    J [] W →
    CallsIn F n P g (#[.func (.yield l) #[] #[]] ++ lb) W fun e W' => (∃ v, e = .returned v) ∧ (J xs W' ∨ ∃ pre, pre <+: xs ∧ Jx pre W')

/-- How a round may be left. -/
def RPost {α : Type} (S : Nat → Prop) (I : List α → World → Prop) (Ix : Code → List α → World → Prop) (xs : List α) (W : World) : Exit → Act → World → Prop
  | .normal, _, W' => Kept S W W' ∧ I xs W'
  | .ret, _, W' => Kept S W W' ∧ Ix .ret xs W'
  | .exit id, _, W' => Kept S W W' ∧ Ix (.exit id) xs W'
  | .goto t, _, W' => Kept S W W' ∧ Ix (.goto t) xs W'
  | .panic _, _, _ => False
  | .outgrown, _, _ => False

theorem fr_putObj {S : Nat → Prop} (W : World) (l : Nat) (o : Obj) (hl : S l) : Fr S W (W.putObj l o) :=
  ⟨rfl, rfl, rfl, by simp [World.putObj], fun k _ hn => World.putObj_heap_other (by rintro rfl; exact hn hl)⟩

/-- **The law.** The loop's record lies at w.heap.size + 1, the block for deferred calls at w.heap.size. -/
theorem wpIn_range {α : Type} {g : Operand} {ps : Array Tmp} {assign body : Code} {Q : Exit → Act → World → Prop} {a : Act} {w : World}
    (hro : F.round = none) (h1 : 1 ≤ n) {gf : Nat} {lb : Array Value} (hg : a.eval g = .func (.func gf) #[] lb) (hFg : F.fn gf) (eg : ∀ args w, (callFunc gf args).run P w = .ok (.enter gf args) w)
    {encs : α → Array Value} {S : Nat → Prop} {xs : List α} (hit : It F (n - 1) P gf lb S encs xs w) (hS : ∀ k, S k → k < w.heap.size) (hps : ∀ x, (encs x).size = ps.size)
    (I : List α → World → Prop) (Ix : Code → List α → World → Prop)
    (hI : ∀ s A B, I s A → Fr (fun k => S k ∨ k = w.heap.size ∨ k = w.heap.size + 1) A B → I s B)
    (hIx : ∀ c s A B, Ix c s A → Fr (fun k => S k ∨ k = w.heap.size ∨ k = w.heap.size + 1) A B → Ix c s B)
    (h0 : ∀ W, Below w.heap.size w W → w.heap.size + 2 ≤ W.heap.size → I [] W)
    (hround : ∀ pre x W, (pre ++ [x]) <+: xs → I pre W → w.heap.size + 2 ≤ W.heap.size →
      assign.wpIn (F.inRound (w.heap.size + 1)) (n - 1 - 1) P (Exit.then (fun a1 W1 => Kept (fun k => S k ∨ k = w.heap.size ∨ k = w.heap.size + 1) W W1 ∧
        ∀ W2, Fr (fun k => k = w.heap.size + 1) W1 W2 → body.wpIn (F.inRound (w.heap.size + 1)) (n - 1 - 1) P (RPost (fun k => S k ∨ k = w.heap.size ∨ k = w.heap.size + 1) I Ix (pre ++ [x]) W2) a1 W2) (fun _ _ _ => False))
        { tmps := (ps.zip (encs x)).foldl (fun t (p, v) => t.setIfInBounds p v) a.tmps, defers := [] } W)
    (hdone : ∀ W, I xs W → W.heap[w.heap.size]? = some (.deferred (some [])) → Q .normal { a with defers := { target := .collected w.heap.size, args := #[] } :: a.defers } W)
    (hstop : ∀ c pre W, pre <+: xs → Ix c pre W → W.heap[w.heap.size]? = some (.deferred (some [])) → c.wpIn F n P Q { a with defers := { target := .collected w.heap.size, args := #[] } :: a.defers } W) :
    (Code.rangeFunc g ps assign body).wpIn F n P Q a w := by
  refine wpIn_rangeFunc ?_
  intro fn hfn
  rw [hro]
  obtain ⟨rec, hrec⟩ : ∃ rec : LoopState → Option Code → Loop, rec = fun st pe => { state := st, pending := pe, fn, tmps := a.tmps, params := ps, assign, body, defers := w.heap.size } := ⟨_, rfl⟩
  obtain ⟨W1, hW1⟩ : ∃ W1, (w.alloc (.deferred (some []))).alloc (.loop (rec .ready none)) = W1 := ⟨_, rfl⟩
  have hL1 : W1.heap[w.heap.size + 1]? = some (.loop (rec .ready none)) := by
    rw [← hW1]; have := World.alloc_heap_new (w.alloc (.deferred (some []))) (.loop (rec .ready none)); rwa [World.size_alloc] at this
  have hK1 : W1.heap[w.heap.size]? = some (.deferred (some [])) := by
    rw [← hW1]; exact (Below.heap_alloc _ _ _ (by simp)).trans (World.alloc_heap_new w _)
  have hb1 : Below w.heap.size w W1 := by
    rw [← hW1]; exact ((Below.refl _ w).alloc (Nat.le_refl _) _).alloc (by simp) _
  have hsz1 : w.heap.size + 2 ≤ W1.heap.size := by rw [← hW1]; simp
  have hnS0 : ¬ S w.heap.size := fun h => by have := hS _ h; omega
  have hnS1 : ¬ S (w.heap.size + 1) := fun h => by have := hS _ h; omega
  refine ⟨w.heap.size + 1, [{ target := .collected w.heap.size, args := #[] }], W1, { target := .fn (.func gf) lb, args := #[.func (.yield (w.heap.size + 1)) #[] #[]] }, W1, gf,
    #[.func (.yield (w.heap.size + 1)) #[] #[]] ++ lb, W1, ?_, ?_, ?_, ?_, fun _ => h1, ?_⟩
  · rw [← hW1, hrec]; exact run_enterLoop_outer _ _ _ _ _
  · simp only [resolve, hg]
    simp [go_sem]
  · intro f' hf'; simp [Target.leads] at hf'; subst hf'; exact hFg
  · simp [invoke, go_sem, eg]
  · have keep : ∀ {A B : World} {k : Nat} {o : Obj}, Fr S A B → ¬ S k → A.heap[k]? = some o → B.heap[k]? = some o := fun hf hk h =>
      (hf.block _ (Array.getElem?_eq_some_iff.1 h).1 hk).trans h
    refine (hit (w.heap.size + 1)
      (fun pre W => I pre W ∧ W.heap[w.heap.size + 1]? = some (.loop (rec .ready none)) ∧ W.heap[w.heap.size]? = some (.deferred (some [])))
      (fun pre W => ∃ c, Ix c pre W ∧ W.heap[w.heap.size + 1]? = some (.loop (rec .done (some c))) ∧ W.heap[w.heap.size]? = some (.deferred (some [])))
      W1 hb1
      (fun s A B hs hf => ⟨hI s A B hs.1 (hf.mono fun k _ hk => .inl hk), keep hf hnS1 hs.2.1, keep hf hnS0 hs.2.2⟩)
      (fun s A B hs hf => by
        obtain ⟨c, hc, hl, hk⟩ := hs
        exact ⟨c, hIx c s A B hc (hf.mono fun k _ hk => .inl hk), keep hf hnS1 hl, keep hf hnS0 hk⟩)
      ?_ ⟨h0 W1 hb1 hsz1, hL1, hK1⟩).mono ?_
    · rintro pre x W ⟨hi, hl, hk⟩ hpre
      have hlt : w.heap.size + 1 < W.heap.size := (Array.getElem?_eq_some_iff.1 hl).1
      have hy := run_yield (P := P) (args := encs x) hl (by rw [hrec]; exact hps x)
      rw [hrec] at hy
      refine ⟨fn, _, assign, body, hy, roundIn_of_wpIn hfn ?_⟩
      refine wpIn_mono (hround pre x W hpre hi (by omega)) ?_
      intro e a1 WA hA
      cases e with
      | normal =>
        obtain ⟨hkeep, hbody⟩ := hA
        have hlA : WA.heap[w.heap.size + 1]? = some (.loop (rec .ready none)) := (hkeep.block _ (.inr (.inr rfl)) hlt).trans hl
        have hkA : WA.heap[w.heap.size]? = some (.deferred (some [])) := (hkeep.block _ (.inr (.inl rfl)) (by omega)).trans hk
        have hltA : w.heap.size + 1 < WA.heap.size := (Array.getElem?_eq_some_iff.1 hlA).1
        refine ⟨_, run_beginRound hlA (by rw [hrec]), ?_⟩
        have hl2 : (WA.putObj (w.heap.size + 1) (.loop { rec .ready none with state := .busy })).heap[w.heap.size + 1]? = some (.loop { rec .ready none with state := .busy }) := World.putObj_heap_same hltA
        have hk2 : (WA.putObj (w.heap.size + 1) (.loop { rec .ready none with state := .busy })).heap[w.heap.size]? = some (.deferred (some [])) := (World.putObj_heap_other (by omega)).trans hkA
        refine wpIn_mono (hbody _ (fr_putObj _ _ _ rfl)) ?_
        have fin : ∀ (jump : Option Code) (W3 : World), Kept (fun k => S k ∨ k = w.heap.size ∨ k = w.heap.size + 1) (WA.putObj (w.heap.size + 1) (.loop { rec .ready none with state := .busy })) W3 →
            (Instr.endRound (w.heap.size + 1) jump).run P W3 = .ok (.bool jump.isNone) (W3.putObj (w.heap.size + 1) (.loop (rec (if jump.isNone then .ready else .done) jump))) ∧
            (W3.putObj (w.heap.size + 1) (.loop (rec (if jump.isNone then .ready else .done) jump))).heap[w.heap.size + 1]? = some (.loop (rec (if jump.isNone then .ready else .done) jump)) ∧
            (W3.putObj (w.heap.size + 1) (.loop (rec (if jump.isNone then .ready else .done) jump))).heap[w.heap.size]? = some (.deferred (some [])) ∧
            Kept S W (W3.putObj (w.heap.size + 1) (.loop (rec (if jump.isNone then .ready else .done) jump))) := fun jump W3 hk3 => by
          have hs2 : w.heap.size + 1 < (WA.putObj (w.heap.size + 1) (.loop { rec .ready none with state := .busy })).heap.size := (Array.getElem?_eq_some_iff.1 hl2).1
          have hl3 := (hk3.block _ (.inr (.inr rfl)) hs2).trans hl2
          have := run_endRound (P := P) jump hl3
          rw [hrec] at this ⊢
          refine ⟨this, World.putObj_heap_same (Array.getElem?_eq_some_iff.1 hl3).1, (World.putObj_heap_other (by omega)).trans ((hk3.block _ (.inr (.inl rfl)) (by omega)).trans hk2), ?_⟩
          have k1 : Kept S W WA := hkeep.mono fun k hk => .inl hk
          have k2 : Kept S WA (WA.putObj (w.heap.size + 1) (.loop { rec .ready none with state := .busy })) := Kept.of_fr (fr_putObj (S := fun k => k = w.heap.size + 1) _ _ _ rfl) (fun k hk e => hnS1 (e ▸ hk))
          have k3 := hk3.mono (S' := S) fun k hk => .inl hk
          have k4 : Kept S W3 (W3.putObj (w.heap.size + 1) (.loop (rec (if jump.isNone then .ready else .done) jump))) := Kept.of_fr (fr_putObj (S := fun k => k = w.heap.size + 1) _ _ _ rfl) (fun k hk e => hnS1 (e ▸ hk))
          rw [hrec] at k2 k3 k4
          exact ((k1.trans k2).trans k3).trans k4
        have hput : ∀ (W3 : World) (o : Obj), Fr (fun k => S k ∨ k = w.heap.size ∨ k = w.heap.size + 1) W3 (W3.putObj (w.heap.size + 1) o) := fun W3 o => fr_putObj _ _ _ (.inr (.inr rfl))
        rintro e a3 W3 hp
        cases e with
        | normal =>
          obtain ⟨hk3, hi3⟩ := hp
          obtain ⟨hr, hl4, hk4, hkp⟩ := fin none W3 hk3
          exact ⟨_, _, hr, .inl ⟨rfl, ⟨hI _ _ _ hi3 (hput _ _), hl4, hk4⟩, hkp⟩⟩
        | ret =>
          obtain ⟨hk3, hi3⟩ := hp
          obtain ⟨hr, hl4, hk4, hkp⟩ := fin (some .ret) W3 hk3
          exact ⟨_, _, hr, .inr ⟨rfl, ⟨.ret, hIx _ _ _ _ hi3 (hput _ _), hl4, hk4⟩, hkp⟩⟩
        | exit id =>
          obtain ⟨hk3, hi3⟩ := hp
          obtain ⟨hr, hl4, hk4, hkp⟩ := fin (some (.exit id)) W3 hk3
          exact ⟨_, _, hr, .inr ⟨rfl, ⟨.exit id, hIx _ _ _ _ hi3 (hput _ _), hl4, hk4⟩, hkp⟩⟩
        | goto t =>
          obtain ⟨hk3, hi3⟩ := hp
          obtain ⟨hr, hl4, hk4, hkp⟩ := fin (some (.goto t)) W3 hk3
          exact ⟨_, _, hr, .inr ⟨rfl, ⟨.goto t, hIx _ _ _ _ hi3 (hput _ _), hl4, hk4⟩, hkp⟩⟩
        | panic ch => exact hp.elim
        | outgrown => exact hp.elim
      | ret => exact hA.elim
      | exit id => exact hA.elim
      | goto t => exact hA.elim
      | panic ch => exact hA.elim
      | outgrown => exact hA.elim
    · have hput : ∀ (W3 : World) (o : Obj), Fr (fun k => S k ∨ k = w.heap.size ∨ k = w.heap.size + 1) W3 (W3.putObj (w.heap.size + 1) o) := fun W3 o => fr_putObj _ _ _ (.inr (.inr rfl))
      rintro e W2 ⟨⟨v, rfl⟩, (⟨hi, hl, hk⟩ | ⟨pre, hpre, c, hi, hl, hk⟩)⟩
      · exact ⟨none, _, by have := run_endLoop (P := P) hl (by rw [hrec]; simp); rw [hrec] at this; exact this, hdone _ (hI _ _ _ hi (hput _ _)) ((World.putObj_heap_other (by omega)).trans hk)⟩
      · exact ⟨some c, _, by have := run_endLoop (P := P) hl (by rw [hrec]; simp); rw [hrec] at this; exact this, hstop c pre _ hpre (hIx _ _ _ _ hi (hput _ _)) ((World.putObj_heap_other (by omega)).trans hk)⟩

/-- A plain contract, where the walk stands at a call inside the fence that asks nothing. -/
theorem wide_call {n : Nat} {P : Program} {f : FuncId} {args : Array Value} {w : World} {R : Ending → World → Prop} (h : Calls P f args w R) :
    Fence.wide.fn f ∧ (Fence.wide.depth.isSome = true → 1 ≤ n) ∧ CallsIn Fence.wide (n - 1) P f args w R :=
  ⟨trivial, fun h => (by cases h), callsIn_wide.2 h⟩

theorem wide_call' {n : Nat} {P : Program} {f : FuncId} {args : Array Value} {w : World} {R : Ending → World → Prop} (h : Calls P f args w R) :
    Fence.wide.fn f ∧ CallsIn Fence.wide n P f args w R := ⟨trivial, callsIn_wide.2 h⟩

end Go.Proofs.YtnibpknhpjcamaaGreatDoor
