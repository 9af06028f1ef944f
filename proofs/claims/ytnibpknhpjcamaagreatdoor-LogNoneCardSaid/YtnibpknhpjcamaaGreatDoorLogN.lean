/-
  The names of a log's segments: numbers and their order; a disk's files that are a log's. No conditions.
-/
import Derived.Test.YtnibpknhpjcamaaGreatDoorLogP
set_option maxRecDepth 100000
namespace Go.Proofs.YtnibpknhpjcamaaGreatDoor
open Go.RowKit

def isDigit (c : UInt8) : Bool := decide (48 ≤ c.toNat ∧ c.toNat ≤ 57)
def numL (l : List UInt8) : Int := l.foldl (fun n c => 10 * n + ((c.toNat : Int) - 48)) 0

theorem numL_snoc (l : List UInt8) (c : UInt8) : numL (l ++ [c]) = 10 * numL l + ((c.toNat : Int) - 48) := by
  unfold numL; rw [List.foldl_append]; rfl

theorem digit_of (b : Int) : ((UInt8.ofNat (48 + b % 10).toNat).toNat : Int) = 48 + b % 10 := by
  rw [u8_small (by omega)]; omega

theorem digs_digit (k : Nat) : ∀ b, ∀ c ∈ digs k b, isDigit c = true := by
  induction k with
  | zero => intro b c hc; cases hc
  | succ k ih =>
    intro b c hc
    rw [digs] at hc
    rcases List.mem_append.1 hc with h | h
    · exact ih _ _ h
    · simp only [List.mem_singleton] at h
      subst h
      unfold isDigit
      rw [u8_small (by omega)]
      simp; omega

theorem numL_digs (k : Nat) : ∀ b : Int, 0 ≤ b → b < 10 ^ k → numL (digs k b) = b := by
  induction k with
  | zero => intro b h0 h1; simp at h1; have : b = 0 := by omega
            subst this; rfl
  | succ k ih =>
    intro b h0 h1
    have hp : (10 : Int) ^ (k + 1) = 10 * 10 ^ k := by rw [Int.pow_succ]; omega
    rw [digs, numL_snoc, ih (b / 10) (by omega) (by omega), digit_of]
    omega

theorem digs_numL (s : List UInt8) : s.all isDigit = true → digs s.length (numL s) = s ∧ 0 ≤ numL s := by
  induction s using snoc_ind with
  | h0 => intro _; exact ⟨rfl, by unfold numL; simp⟩
  | hs l c ih =>
    intro h
    rw [List.all_append] at h
    simp only [List.all_cons, List.all_nil, Bool.and_true, Bool.and_eq_true] at h
    obtain ⟨h1, h2⟩ := ih h.1
    have hc := h.2
    unfold isDigit at hc
    simp only [decide_eq_true_eq] at hc
    rw [numL_snoc, List.length_append, List.length_singleton, digs]
    have e1 : (10 * numL l + ((c.toNat : Int) - 48)) / 10 = numL l := by omega
    have e2 : (10 * numL l + ((c.toNat : Int) - 48)) % 10 = (c.toNat : Int) - 48 := by omega
    rw [e1, e2, h1]
    refine ⟨?_, by omega⟩
    congr 1
    simp only [List.cons.injEq, and_true]
    have e3 : (48 + ((c.toNat : Int) - 48)).toNat = c.toNat := by omega
    rw [e3]; simp

theorem lt_app {x y : List UInt8} (s t : List UInt8) (h : x < y) (hl : x.length = y.length) : x ++ s < y ++ t := by
  induction x generalizing y with
  | nil =>
    cases y with
    | nil => exact absurd h (List.lt_irrefl _)
    | cons b y => simp at hl
  | cons a x ih =>
    cases y with
    | nil => simp at hl
    | cons b y =>
      rw [List.cons_lt_cons_iff] at h
      rw [List.cons_append, List.cons_append, List.cons_lt_cons_iff]
      rcases h with h | ⟨h1, h2⟩
      · exact .inl h
      · exact .inr ⟨h1, ih h2 (by simpa using hl)⟩

theorem app_lt (x : List UInt8) {s t : List UInt8} (h : s < t) : x ++ s < x ++ t := by
  induction x with
  | nil => exact h
  | cons a x ih => rw [List.cons_append, List.cons_append, List.cons_lt_cons_iff]; exact .inr ⟨rfl, ih⟩

theorem digs_lt (k : Nat) : ∀ a b : Int, 0 ≤ a → a < b → b < 10 ^ k → digs k a < digs k b := by
  induction k with
  | zero => intro a b h0 h1 h2; simp at h2; omega
  | succ k ih =>
    intro a b h0 h1 h2
    have hp : (10 : Int) ^ (k + 1) = 10 * 10 ^ k := by rw [Int.pow_succ]; omega
    rw [digs, digs]
    by_cases h : a / 10 < b / 10
    · exact lt_app _ _ (ih _ _ (by omega) h (by omega)) (by rw [digs_len, digs_len])
    · have e : a / 10 = b / 10 := by omega
      rw [e]
      refine app_lt _ ?_
      rw [List.cons_lt_cons_iff]
      left
      rw [UInt8.lt_iff_toNat_lt]
      have := digit_of a
      have := digit_of b
      omega

theorem segName_lt (name : List UInt8) {a b : Int} (h0 : 0 ≤ a) (h1 : a < b) (h2 : b ≤ 1099511627776) : segName name a < segName name b := by
  unfold segName
  refine app_lt _ ?_
  rw [List.cons_lt_cons_iff]
  exact .inr ⟨rfl, digs_lt 13 a b h0 h1 (by omega)⟩

theorem segName_inj (name : List UInt8) {a b : Int} (h0 : 0 ≤ a) (h1 : a ≤ 1099511627776) (h2 : 0 ≤ b) (h3 : b ≤ 1099511627776) (h : segName name a = segName name b) : a = b := by
  have h : digs 13 a = digs 13 b := by
    unfold segName at h
    simpa using h
  have e1 := numL_digs 13 a h0 (by omega)
  have e2 := numL_digs 13 b h2 (by omega)
  rw [← e1, h, e2]

/-- The offset in a segment's name. -/
def segBase (name f : List UInt8) : Option Int :=
  if (name ++ [46]) <+: f ∧ (f.drop (name.length + 1)).length = 13 ∧ (f.drop (name.length + 1)).all isDigit = true ∧ numL (f.drop (name.length + 1)) ≤ 1099511627776 then some (numL (f.drop (name.length + 1))) else none

theorem segBase_name (name : List UInt8) {b : Int} (h0 : 0 ≤ b) (h1 : b ≤ 1099511627776) : segBase name (segName name b) = some b := by
  have hd : (segName name b).drop (name.length + 1) = digs 13 b := by
    unfold segName
    rw [← List.drop_drop, List.drop_left]; rfl
  unfold segBase
  rw [hd, numL_digs 13 b h0 (by omega), if_pos]
  refine ⟨⟨digs 13 b, by unfold segName; simp⟩, digs_len 13 b, ?_, h1⟩
  rw [List.all_eq_true]
  exact digs_digit 13 b

theorem segBase_some {name f : List UInt8} {b : Int} (h : segBase name f = some b) : f = segName name b ∧ 0 ≤ b ∧ b ≤ 1099511627776 := by
  unfold segBase at h
  split at h
  · rename_i hc
    obtain ⟨⟨t, ht⟩, h2, h3, h4⟩ := hc
    simp only [Option.some.injEq] at h
    subst h
    have hd : f.drop (name.length + 1) = t := by
      rw [← ht, show name.length + 1 = (name ++ [46]).length from by simp, List.drop_left]
    rw [hd] at h2 h3 h4 ⊢
    obtain ⟨h5, h6⟩ := digs_numL t h3
    rw [h2] at h5
    refine ⟨?_, h6, h4⟩
    unfold segName
    rw [h5, ← ht]; simp
  · cases h

/-- Is it a segment of that log? -/
def own (name : List UInt8) (f : PFile) : Bool := (segBase name f.name).isSome

theorem own_iff {name : List UInt8} {f : PFile} : own name f = true ↔ ∃ b, f.name = segName name b ∧ 0 ≤ b ∧ b ≤ 1099511627776 := by
  unfold own
  constructor
  · intro h
    obtain ⟨b, hb⟩ := Option.isSome_iff_exists.1 h
    exact ⟨b, segBase_some hb⟩
  · rintro ⟨b, h, h0, h1⟩
    rw [h, segBase_name name h0 h1]; rfl

theorem putF_filter_other {name : List UInt8} {l : List PFile} {f : PFile} (hf : own name f = false) : (putF l f).filter (own name) = l.filter (own name) := by
  induction l with
  | nil => simp [putF, hf]
  | cons g l ih =>
    rw [putF]
    split
    · rename_i e
      have : own name g = false := by unfold own at hf ⊢; rw [e]; exact hf
      rw [List.filter_cons, List.filter_cons, hf, this]; rfl
    · split
      · rw [List.filter_cons, List.filter_cons, ih]
      · rw [List.filter_cons, hf]; rfl

theorem putF_filter {name : List UInt8} {l : List PFile} (h : Sorted l) {f : PFile} (hf : own name f = true) : (putF l f).filter (own name) = putF (l.filter (own name)) f := by
  induction l with
  | nil => simp [putF, hf]
  | cons g l ih =>
    have hc := List.pairwise_cons.1 h
    have key : ∀ m : List PFile, (∀ x ∈ m, f.name < x.name) → putF m f = f :: m := by
      intro m hm
      cases m with
      | nil => rfl
      | cons y m =>
        have := hm y (by simp)
        rw [putF, if_neg (fun e => by rw [e] at this; exact List.lt_irrefl _ this), if_neg (fun e => List.lt_irrefl _ (List.lt_trans e this))]
    rw [putF]
    split
    · rename_i e
      have hg : own name g = true := by unfold own at hf ⊢; rw [e]; exact hf
      rw [List.filter_cons, List.filter_cons, if_pos hf, if_pos hg, putF, if_pos e]
    · rename_i e
      split
      · rename_i e2
        rw [List.filter_cons, List.filter_cons, ih hc.2]
        split
        · rw [putF, if_neg e, if_pos e2]
        · rfl
      · rename_i e2
        have hlt := lt_tri e e2
        rw [List.filter_cons, if_pos hf]
        rw [key]
        intro x hx
        rcases List.mem_cons.1 (List.mem_filter.1 hx).1 with rfl | hx
        · exact hlt
        · exact List.lt_trans hlt (hc.1 x hx)

theorem putF_last {l : List PFile} {f : PFile} (h : ∀ g ∈ l, g.name < f.name) : putF l f = l ++ [f] := by
  induction l with
  | nil => rfl
  | cons g l ih =>
    have := h g (by simp)
    rw [putF, if_neg (fun e => by rw [e] at this; exact List.lt_irrefl _ this), if_pos this, ih (fun x hx => h x (by simp [hx]))]; rfl

theorem putF_snoc {l : List PFile} {g f : PFile} (h : ∀ x ∈ l, x.name < g.name) (e : f.name = g.name) : putF (l ++ [g]) f = l ++ [f] := by
  induction l with
  | nil => simp [putF, e]
  | cons x l ih =>
    have := h x (by simp)
    rw [List.cons_append, putF, if_neg (fun e2 => by rw [e2, e] at this; exact List.lt_irrefl _ this), if_pos (by rw [e]; exact this), ih (fun y hy => h y (by simp [hy]))]; rfl

end Go.Proofs.YtnibpknhpjcamaaGreatDoor
