/-
  Offsets, plain: what a note does, and what stays true. No conditions.
  Rows of the call's own: a cell is set, the row is cut, what is behind it is cleared. No conditions.
-/
import Derived.WalkKit
import Derived.Test.YtgjkjkeeblbjlaaGreatDoorGAM
import Derived.Lib.SliceRun
import Derived.Lib.SmallJoins
set_option maxRecDepth 100000
namespace Go.Proofs.YtgjkjkeeblbjlaaGreatDoor

structure PPend where
  pid : Int
  epoch : Int
  part : Int
  off : Int
deriving DecidableEq

structure POff where
  gen : Int
  next : Int
  com : List Int
  pend : List PPend

def isNum (n : Int) : Prop := 0 ≤ n ∧ n ≤ 1099511627776
def isProd (pid epoch : Int) : Prop := 1 ≤ pid ∧ pid ≤ 8 ∧ 1 ≤ epoch ∧ epoch ≤ 1099511627776
def POff.isPart (O : POff) (p : Int) : Prop := 0 ≤ p ∧ p < O.com.length
instance (n : Int) : Decidable (isNum n) := by unfold isNum; infer_instance
instance (a b : Int) : Decidable (isProd a b) := by unfold isProd; infer_instance
instance (O : POff) (p : Int) : Decidable (O.isPart p) := by unfold POff.isPart; infer_instance

/-- What is committed of a partition. -/
def POff.at (O : POff) (p : Int) : Int := O.com.getD p.toNat 0
/-- What is pending of a partition. -/
def POff.ofPart (O : POff) (p : Int) : List PPend := O.pend.filter fun x => x.part == p
/-- What is pending of a producer. -/
def POff.ofPid (O : POff) (pid : Int) : List PPend := O.pend.filter fun x => x.pid == pid
def putCom (com : List Int) (l : List PPend) : List Int := l.foldl (fun c x => c.set x.part.toNat x.off) com

/-- A note: its kind, four numbers. -/
structure PNote where
  kind : Int
  a : Int
  b : Int
  c : Int
  d : Int
def PNote.nums (n : PNote) : List Int := [n.kind, n.a, n.b, n.c, n.d]

def POff.fold (O : POff) (n : PNote) : Option POff :=
  if n.kind = 1 then
    if ¬ isNum n.a ∨ ¬ isNum n.b ∨ n.a < O.gen ∨ n.b < O.next ∨ n.c ≠ 0 ∨ n.d ≠ 0 then none else some { O with gen := n.a, next := n.b }
  else if n.kind = 2 then
    if ¬ isProd n.a n.b ∨ ¬ O.isPart n.c ∨ ¬ isNum n.d ∨ n.d < O.at n.c ∨ O.ofPart n.c ≠ [] then none else some { O with pend := O.pend ++ [⟨n.a, n.b, n.c, n.d⟩] }
  else if n.kind = 3 then
    if ¬ isProd n.a n.b ∨ (n.c ≠ 0 ∧ n.c ≠ 1) ∨ n.d ≠ 0 ∨ O.ofPid n.a = [] then none
    else some { O with com := if n.c = 1 then putCom O.com (O.ofPid n.a) else O.com, pend := O.pend.filter fun x => !(x.pid == n.a) }
  else none

structure POff.Ok (O : POff) : Prop where
  gen : isNum O.gen
  next : isNum O.next
  com : ∀ n ∈ O.com, isNum n
  pend : ∀ x ∈ O.pend, isProd x.pid x.epoch ∧ O.isPart x.part ∧ isNum x.off ∧ O.at x.part ≤ x.off
  once : O.pend.Pairwise fun x y => x.part ≠ y.part

theorem putCom_len (com : List Int) (l : List PPend) : (putCom com l).length = com.length := by
  induction l generalizing com with
  | nil => rfl
  | cons x l ih => unfold putCom at ih ⊢; rw [List.foldl_cons, ih]; simp

/-- A partition that none of them is of stays. -/
theorem putCom_other (com : List Int) (l : List PPend) (p : Int) (h : ∀ x ∈ l, 0 ≤ x.part ∧ x.part ≠ p) (hp : 0 ≤ p) : (putCom com l).getD p.toNat 0 = com.getD p.toNat 0 := by
  induction l generalizing com with
  | nil => rfl
  | cons x l ih =>
    unfold putCom at ih ⊢
    rw [List.foldl_cons, ih _ (fun y hy => h y (List.mem_cons_of_mem _ hy))]
    have h1 := h x (List.mem_cons_self ..)
    have hne : x.part.toNat ≠ p.toNat := by omega
    simp only [List.getD_eq_getElem?_getD]
    rw [List.getElem?_set_ne hne]

/-- A partition that one of them is of has its offset. -/
theorem putCom_one (com : List Int) (l : List PPend) {x : PPend} (hx : x ∈ l) (h : ∀ y ∈ l, 0 ≤ y.part ∧ y.part < com.length) (ho : l.Pairwise fun x y => x.part ≠ y.part) : (putCom com l).getD x.part.toNat 0 = x.off := by
  induction l generalizing com with
  | nil => cases hx
  | cons y l ih =>
    obtain ⟨ho1, ho2⟩ := List.pairwise_cons.1 ho
    have hy := h y (List.mem_cons_self ..)
    rcases List.mem_cons.1 hx with rfl | hx
    · have h9 := putCom_other (com.set x.part.toNat x.off) l x.part (fun z hz => ⟨(h z (List.mem_cons_of_mem _ hz)).1, fun e => ho1 z hz e.symm⟩) hy.1
      unfold putCom at h9 ⊢
      rw [List.foldl_cons, h9]
      simp only [List.getD_eq_getElem?_getD]
      rw [List.getElem?_set_self (by omega)]; rfl
    · unfold putCom at ih ⊢
      rw [List.foldl_cons]
      exact ih _ hx (fun z hz => by rw [List.length_set]; exact h z (List.mem_cons_of_mem _ hz)) ho2

theorem putCom_mem {com : List Int} {l : List PPend} {n : Int} (h : n ∈ putCom com l) : n ∈ com ∨ ∃ x ∈ l, n = x.off := by
  induction l generalizing com with
  | nil => exact .inl h
  | cons x l ih =>
    unfold putCom at ih h
    rw [List.foldl_cons] at h
    rcases ih h with h1 | ⟨y, hy, e⟩
    · rcases List.mem_or_eq_of_mem_set h1 with h2 | h2
      · exact .inl h2
      · exact .inr ⟨x, List.mem_cons_self .., h2⟩
    · exact .inr ⟨y, List.mem_cons_of_mem _ hy, e⟩

theorem ofPart_nil {O : POff} {p : Int} (h : O.ofPart p = []) : ∀ x ∈ O.pend, x.part ≠ p := by
  intro x hx e
  have : x ∈ O.ofPart p := List.mem_filter.2 ⟨hx, by simpa using e⟩
  rw [h] at this; cases this

theorem ofPid_mem {O : POff} {a : Int} {x : PPend} : x ∈ O.ofPid a ↔ x ∈ O.pend ∧ x.pid = a := by
  unfold POff.ofPid
  rw [List.mem_filter]
  simp

/-- What a note that fits changes. -/
structure Folds (O O' : POff) (n : PNote) : Prop where
  ok : O'.Ok
  len : O'.com.length = O.com.length
  gen : O.gen ≤ O'.gen
  next : O.next ≤ O'.next
  rise : ∀ p, O.isPart p → O.at p ≤ O'.at p
  moved : ∀ p, O.isPart p → O.at p ≠ O'.at p → n.kind = 3 ∧ n.c = 1 ∧ ∃ x ∈ O.pend, x.part = p ∧ x.off = O'.at p ∧ x.pid = n.a

theorem POff.Ok.folds {O O' : POff} {n : PNote} (h : O.Ok) (hf : O.fold n = some O') : Folds O O' n := by
  unfold POff.fold at hf
  by_cases h1 : n.kind = 1
  · rw [if_pos h1] at hf
    split at hf
    · cases hf
    · rename_i hn
      injection hf with hf; subst hf
      have hn : isNum n.a ∧ isNum n.b ∧ O.gen ≤ n.a ∧ O.next ≤ n.b := by
        refine ⟨Decidable.byContradiction fun h9 => hn (.inl h9), Decidable.byContradiction fun h9 => hn (.inr (.inl h9)), ?_, ?_⟩
        · have : ¬ n.a < O.gen := fun h9 => hn (.inr (.inr (.inl h9)))
          omega
        · have : ¬ n.b < O.next := fun h9 => hn (.inr (.inr (.inr (.inl h9))))
          omega
      exact ⟨⟨hn.1, hn.2.1, h.com, h.pend, h.once⟩, rfl, hn.2.2.1, hn.2.2.2, fun p _ => Int.le_refl _, fun p _ h9 => absurd rfl h9⟩
  · rw [if_neg h1] at hf
    by_cases h2 : n.kind = 2
    · rw [if_pos h2] at hf
      split at hf
      · cases hf
      · rename_i hn
        injection hf with hf; subst hf
        have hp : isProd n.a n.b := Decidable.byContradiction fun h9 => hn (.inl h9)
        have hpt : O.isPart n.c := Decidable.byContradiction fun h9 => hn (.inr (.inl h9))
        have hd : isNum n.d := Decidable.byContradiction fun h9 => hn (.inr (.inr (.inl h9)))
        have hat : O.at n.c ≤ n.d := by
          have : ¬ n.d < O.at n.c := fun h9 => hn (.inr (.inr (.inr (.inl h9))))
          omega
        have hof : O.ofPart n.c = [] := Decidable.byContradiction fun h9 => hn (.inr (.inr (.inr (.inr h9))))
        refine ⟨⟨h.gen, h.next, h.com, fun x hx => ?_, ?_⟩, rfl, Int.le_refl _, Int.le_refl _, fun p _ => Int.le_refl _, fun p _ h9 => absurd rfl h9⟩
        · rcases List.mem_append.1 hx with hx | hx
          · exact h.pend x hx
          · simp only [List.mem_singleton] at hx
            subst hx
            exact ⟨hp, hpt, hd, hat⟩
        · refine List.pairwise_append.2 ⟨h.once, List.pairwise_singleton _ _, fun x hx y hy => ?_⟩
          simp only [List.mem_singleton] at hy
          subst hy
          exact ofPart_nil hof x hx
    · rw [if_neg h2] at hf
      by_cases h3 : n.kind = 3
      · rw [if_pos h3] at hf
        split at hf
        · cases hf
        · rename_i hn
          injection hf with hf; subst hf
          have hmem : ∀ x ∈ O.ofPid n.a, x ∈ O.pend := fun x hx => (ofPid_mem.1 hx).1
          have honce : (O.ofPid n.a).Pairwise fun x y => x.part ≠ y.part := h.once.sublist List.filter_sublist
          have hpt : ∀ x ∈ O.ofPid n.a, 0 ≤ x.part ∧ x.part < O.com.length := fun x hx => (h.pend x (hmem x hx)).2.1
          -- what is committed of a partition now
          have hat : ∀ p, O.isPart p → ((putCom O.com (O.ofPid n.a)).getD p.toNat 0 = O.at p ∧ ∀ x ∈ O.ofPid n.a, x.part ≠ p) ∨ ∃ x ∈ O.ofPid n.a, x.part = p ∧ (putCom O.com (O.ofPid n.a)).getD p.toNat 0 = x.off := by
            intro p hp
            by_cases hex : ∃ x ∈ O.ofPid n.a, x.part = p
            · obtain ⟨x, hx, rfl⟩ := hex
              exact .inr ⟨x, hx, rfl, putCom_one O.com _ hx hpt honce⟩
            · have hne : ∀ x ∈ O.ofPid n.a, x.part ≠ p := fun x hx e => hex ⟨x, hx, e⟩
              exact .inl ⟨putCom_other O.com _ p (fun x hx => ⟨(hpt x hx).1, hne x hx⟩) hp.1, hne⟩
          by_cases hc : n.c = 1
          · simp only [if_pos hc]
            refine ⟨⟨h.gen, h.next, fun m hm => ?_, fun x hx => ?_, h.once.sublist List.filter_sublist⟩, putCom_len _ _, Int.le_refl _, Int.le_refl _, fun p hp => ?_, fun p hp h9 => ?_⟩
            · rcases putCom_mem hm with h9 | ⟨x, hx, rfl⟩
              · exact h.com m h9
              · exact (h.pend x (hmem x hx)).2.2.1
            · obtain ⟨hx1, hx2⟩ := List.mem_filter.1 hx
              obtain ⟨p1, p2, p3, p4⟩ := h.pend x hx1
              refine ⟨p1, ⟨p2.1, by show x.part < ((putCom O.com (O.ofPid n.a)).length : Int); rw [putCom_len]; exact p2.2⟩, p3, ?_⟩
              rcases hat x.part p2 with ⟨h9, _⟩ | ⟨y, hy, hyp, h9⟩
              · show (putCom O.com (O.ofPid n.a)).getD x.part.toNat 0 ≤ x.off
                rw [h9]; exact p4
              · exfalso
                have hyd := ofPid_mem.1 hy
                have hxy : y ≠ x := by
                  rintro rfl
                  simp [hyd.2] at hx2
                have : ∀ {l : List PPend}, l.Pairwise (fun x y => x.part ≠ y.part) → x ∈ l → y ∈ l → x.part ≠ y.part := by
                  intro l hl
                  induction l with
                  | nil => intro h; cases h
                  | cons z l ih =>
                    obtain ⟨z1, z2⟩ := List.pairwise_cons.1 hl
                    intro ha hb
                    rcases List.mem_cons.1 ha with ha1 | ha2
                    · rcases List.mem_cons.1 hb with hb1 | hb2
                      · exact absurd (hb1.trans ha1.symm) hxy
                      · rw [ha1]; exact z1 y hb2
                    · rcases List.mem_cons.1 hb with hb1 | hb2
                      · rw [hb1]; exact fun e => z1 x ha2 e.symm
                      · exact ih z2 ha2 hb2
                exact this h.once hx1 hyd.1 hyp.symm
            · show O.at p ≤ (putCom O.com (O.ofPid n.a)).getD p.toNat 0
              rcases hat p hp with ⟨h9, _⟩ | ⟨y, hy, rfl, h9⟩
              · omega
              · rw [h9]; exact (h.pend y (hmem y hy)).2.2.2
            · have h9' : O.at p ≠ (putCom O.com (O.ofPid n.a)).getD p.toNat 0 := h9
              rcases hat p hp with ⟨h10, _⟩ | ⟨y, hy, rfl, h10⟩
              · exact absurd h10.symm h9'
              · exact ⟨h3, hc, y, hmem y hy, rfl, h10.symm, (ofPid_mem.1 hy).2⟩
          · simp only [if_neg hc]
            exact ⟨⟨h.gen, h.next, h.com, fun x hx => h.pend x (List.mem_filter.1 hx).1, h.once.sublist List.filter_sublist⟩, rfl, Int.le_refl _, Int.le_refl _, fun p _ => Int.le_refl _, fun p _ h9 => absurd rfl h9⟩
      · rw [if_neg h3] at hf; cases hf
end Go.Proofs.YtgjkjkeeblbjlaaGreatDoor

namespace Go.Proofs.YtgjkjkeeblbjlaaGreatDoor
open Go.RowKit

theorem own_set {w : World} {base g m cap : Nat} {e : TypeId} {size n : Nat} {xs : List Value} (h : w.ownsRow base e size (.slice (some ⟨g, 0, none⟩) m cap) n xs) (i : Nat) (u : Value) :
    (w.setCell ⟨g, i, none⟩ u).ownsRow base e size (.slice (some ⟨g, 0, none⟩) m cap) n (xs.set i u) := by
  obtain ⟨h1, h2⟩ := h
  rcases h2 with ⟨h2, _⟩ | ⟨g2, c2, cur, h2, h3, h4, h5, h6, h7, h8⟩
  · cases h2
  · simp only [Value.slice.injEq, Option.some.injEq, Addr.mk.injEq, and_true] at h2
    obtain ⟨rfl, rfl, rfl⟩ := h2
    refine ⟨by rw [List.length_set]; exact h1, .inr ⟨g, cap, cur.setIfInBounds i u, rfl, h3, ?_, h5, h6, by simp [h7], ?_⟩⟩
    · simp [World.setCell, Array.getElem?_modify, h4]
    · rw [Array.toList_setIfInBounds, List.take_set, h8]

theorem own_set_far {w : World} {base g m cap : Nat} {e : TypeId} {size n : Nat} {xs : List Value} (h : w.ownsRow base e size (.slice (some ⟨g, 0, none⟩) m cap) n xs) {i : Nat} (hi : n * size ≤ i) (u : Value) :
    (w.setCell ⟨g, i, none⟩ u).ownsRow base e size (.slice (some ⟨g, 0, none⟩) m cap) n xs := by
  have h9 := own_set h i u
  rwa [List.set_eq_of_length_le (by rw [h.1]; exact hi)] at h9

theorem own_cut {w : World} {base g m cap : Nat} {e : TypeId} {size n : Nat} {xs : List Value} (h : w.ownsRow base e size (.slice (some ⟨g, 0, none⟩) m cap) n xs) {i : Nat} (hi : i ≤ n) :
    w.ownsRow base e size (.slice (some ⟨g, 0, none⟩) i cap) i (xs.take (i * size)) := by
  obtain ⟨h1, h2⟩ := h
  rcases h2 with ⟨h2, _⟩ | ⟨g2, c2, cur, h2, h3, h4, h5, h6, h7, h8⟩
  · cases h2
  · simp only [Value.slice.injEq, Option.some.injEq, Addr.mk.injEq, and_true] at h2
    obtain ⟨rfl, rfl, rfl⟩ := h2
    have hm := Nat.mul_le_mul_right size hi
    refine ⟨by rw [List.length_take]; omega, .inr ⟨g, cap, cur, rfl, h3, h4, by omega, h6, h7, ?_⟩⟩
    rw [← h8, List.take_take, Nat.min_eq_left hm]

theorem own_cells_far {base g m cap : Nat} {e : TypeId} {size n : Nat} {xs : List Value} : ∀ (vs : List Value) {w : World} {i : Nat}, w.ownsRow base e size (.slice (some ⟨g, 0, none⟩) m cap) n xs → n * size ≤ i →
    (w.setCells g i vs).ownsRow base e size (.slice (some ⟨g, 0, none⟩) m cap) n xs
  | [], _, _, h, _ => h
  | v :: vs, _, i, h, hi => own_cells_far vs (own_set_far h hi v) (by omega)

theorem fr_cells {S : Nat → Prop} {a : World} {g : Nat} (hg : S g) : ∀ (vs : List Value) {w : World} {i : Nat}, Fr S a w → Fr S a (w.setCells g i vs)
  | [], _, _, h => h
  | v :: vs, _, i, h => fr_cells hg vs (h.setCell (p := ⟨g, i, none⟩) (.inl hg) v)

/-- clear, of a slice's end. -/
theorem run_clear_rows {P : Program} (w : World) (t e ty : TypeId) (z : Value) (size : Nat) (ht : P.underlying t = some (.slice e)) (hv : ∀ w, (zeroValue e).run P w = .ok z w) (hz : z.cells.size = size) (h1 : ∀ v ∈ z.cells.toList, v.oneCell' = true) (hs : 0 < size) (b o n c : Nat) (hn : 0 < n)
    (hc : ∀ j, j < n * size → (w.cell? ⟨b, o + j, none⟩).isSome = true) (hf : ∀ j, j < n * size → w.frozen? ⟨b, o + j, none⟩ = false) :
    (Builtin.clear_ #[t] ty #[.slice (some ⟨b, o, none⟩) n c]).run P w = .ok (.tuple #[]) (w.setCells b o (Builtin.zeroCells z.cells n).toList) := by
  have hlen : (Builtin.zeroCells z.cells n).toList.length = n * size := by simp [Builtin.zeroCells, hz]
  have hone : ∀ v ∈ (Builtin.zeroCells z.cells n).toList, v.oneCell' = true := by
    intro v hv'
    unfold Builtin.zeroCells at hv'
    simp only [Array.toList_map, Array.toList_range, List.mem_map, List.mem_range] at hv'
    obtain ⟨i, _, rfl⟩ := hv'
    have hi : i % z.cells.size < z.cells.size := Nat.mod_lt _ (by omega)
    rw [getElem!_pos z.cells _ hi]
    exact h1 _ (by simp)
  have hst := run_storeCells_cells (P := P) b o (Builtin.zeroCells z.cells n).toList 0 w (by rw [hlen]; simpa using hc) (by rw [hlen]; simpa using hf) hone
  simp only [Nat.add_zero] at hst
  obtain ⟨m, rfl⟩ : ∃ m, n = m + 1 := ⟨n - 1, by omega⟩
  simp [Builtin.clear_, run_underlying ht, hv, hst]

theorem row_free {w : World} {base g m cap : Nat} {e : TypeId} {size n : Nat} {xs : List Value} (h : w.ownsRow base e size (.slice (some ⟨g, 0, none⟩) m cap) n xs) (k : Nat) : w.frozen? ⟨g, k, none⟩ = false := by
  rcases h.2 with ⟨h2, _⟩ | ⟨g2, c2, cur, h2, h3, h4, _⟩
  · cases h2
  · simp only [Value.slice.injEq, Option.some.injEq, Addr.mk.injEq, and_true] at h2
    obtain ⟨rfl, _⟩ := h2
    exact Blk.free (T := e) h4 k
/-- A slice that reads as so many elements. -/
def Reads (w : World) (v : Value) (n : Nat) (size : Nat) (xs : List Value) : Prop :=
  xs.length = n * size ∧ ∃ ad cap, v = .slice ad n cap ∧ ∀ j u, xs[j]? = some u → ∃ g, ad = some ⟨g, 0, none⟩ ∧ w.cell? ⟨g, j, none⟩ = some u

theorem Reads.of_own {w : World} {base : Nat} {e : TypeId} {size : Nat} {v : Value} {n : Nat} {xs : List Value} (h : w.ownsRow base e size v n xs) : Reads w v n size xs := by
  refine ⟨h.1, ?_⟩
  rcases Joins.ownsRow_forms h with ⟨e, hz⟩ | ⟨g, cap, rfl⟩
  · refine ⟨none, 0, by rw [e, hz], fun j u hj => ?_⟩
    have := (List.getElem?_eq_some_iff.1 hj).1
    rw [h.1, hz] at this
    omega
  · refine ⟨_, cap, rfl, fun j u hj => ⟨g, rfl, ?_⟩⟩
    have hlt := (List.getElem?_eq_some_iff.1 hj).1
    rw [h.1] at hlt
    rw [h.cellAt j hlt]; exact hj

theorem Reads.below {w w' : World} {v : Value} {n size : Nat} {xs : List Value} (h : Reads w v n size xs) (hb : Below w.heap.size w w') : Reads w' v n size xs := by
  obtain ⟨h1, ad, cap, e, hc⟩ := h
  refine ⟨h1, ad, cap, e, fun j u hj => ?_⟩
  obtain ⟨g, eg, hg⟩ := hc j u hj
  exact ⟨g, eg, (hb.cell (World.block_lt_of_cell? w _ hg)).trans hg⟩

end Go.Proofs.YtgjkjkeeblbjlaaGreatDoor
