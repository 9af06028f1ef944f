/-
  A law for 'for .. := range f' that may be left by a break: what follows is met once. No conditions of our own.
-/
import Derived.Test.YtnibpknhpjcamaaGreatDoorRange
namespace Go.Proofs.YtnibpknhpjcamaaGreatDoor
open Go.RowKit

variable {P : Program}

/-- Only the way on is to be met. -/
theorem wp_normal {c : Code} {Q : Exit → Act → World → Prop} {a : Act} {w : World} (h : c.wp P (Exit.then (fun a w => Q .normal a w) (fun _ _ _ => False)) a w) : c.wp P Q a w :=
  wp_mono h (fun e a w h => by cases e <;> first | exact h | exact h.elim)

/-- **The law for a range that may be left by a break only:** what follows is met once. -/
theorem wp_range_break {α : Type} {g : Operand} {ps : Array Tmp} {assign body : Code} {Q : Exit → Act → World → Prop} {a : Act} {w : World} (id : Nat) (hq : ∀ a W, Q .normal a W → Q (.exit id) a W)
    {gf : Nat} {lb : Array Value} (hg : a.eval g = .func (.func gf) #[] lb) (eg : ∀ args w, (callFunc gf args).run P w = .ok (.enter gf args) w)
    {encs : α → Array Value} {S : Nat → Prop} {xs : List α} (hit : It Fence.wide 8 P gf lb S encs xs w) (hS : ∀ k, S k → k < w.heap.size) (hps : ∀ x, (encs x).size = ps.size)
    (I : List α → World → Prop) (J : World → Prop)
    (hI : ∀ s A B, I s A → Fr (fun k => S k ∨ k = w.heap.size ∨ k = w.heap.size + 1) A B → I s B)
    (hJ : ∀ A B, J A → Fr (fun k => S k ∨ k = w.heap.size ∨ k = w.heap.size + 1) A B → J B)
    (h0 : ∀ W, Below w.heap.size w W → w.heap.size + 2 ≤ W.heap.size → I [] W)
    (hround : ∀ pre x W, (pre ++ [x]) <+: xs → I pre W → w.heap.size + 2 ≤ W.heap.size →
      assign.wpIn (Fence.wide.inRound (w.heap.size + 1)) 7 P (Exit.then (fun a1 W1 => Kept (fun k => S k ∨ k = w.heap.size ∨ k = w.heap.size + 1) W W1 ∧
        ∀ W2, Fr (fun k => k = w.heap.size + 1) W1 W2 → body.wpIn (Fence.wide.inRound (w.heap.size + 1)) 7 P (RPost (fun k => S k ∨ k = w.heap.size ∨ k = w.heap.size + 1) I (fun c _ W => c = .exit id ∧ J W) (pre ++ [x]) W2) a1 W2) (fun _ _ _ => False))
        { tmps := (ps.zip (encs x)).foldl (fun t (p, v) => t.setIfInBounds p v) a.tmps, defers := [] } W)
    (hdone : ∀ W, I xs W → J W)
    (hfin : ∀ W, J W → W.heap[w.heap.size]? = some (.deferred (some [])) → Q .normal { a with defers := { target := .collected w.heap.size, args := #[] } :: a.defers } W) :
    (Code.rangeFunc g ps assign body).wp P Q a w := by
  refine (wpIn_wide (n := 9)).1 ?_
  refine wpIn_range (F := Fence.wide) rfl (by decide) hg trivial eg hit hS hps I (fun c _ W => c = .exit id ∧ J W) hI ?_ h0 hround (fun W h hd => hfin W (hdone W h) hd) ?_
  · rintro c s A B ⟨h1, h2⟩ hf
    exact ⟨h1, hJ A B h2 hf⟩
  · rintro c pre W hpre ⟨rfl, h2⟩ hd
    exact wpIn_wide.2 (wp_exit (hq _ _ (hfin W h2 hd)))

end Go.Proofs.YtnibpknhpjcamaaGreatDoor
