/-
  Offsets, plain: what a note does, and what stays true. No conditions.
  offsets: producer, within: the walks. Conditions: numbers that read.
  Rows of the call's own: a cell is set, the row is cut, what is behind it is cleared. No conditions.
  slices.IndexFunc, ContainsFunc over pending offsets: the walks. Conditions: cells that read.
  slices.Clone at numbers and at pending offsets; what is pending of one: the walks. Conditions: lengths that fit.
  offsets: the functions that it hands the library: the walks. Conditions: cells that read.
-/
import Derived.WalkKit
import Derived.Test.YtjodkcjlipecdaaGreatDoorGAM
import Derived.Test.YtjodkcjlipecdaaGreatDoorProg
import Derived.Lib.SliceRun
import Derived.Deep.LoopGhost
import Derived.Shelf.Abstract
import Derived.Lib.Walk
import Derived.Lib.SmallJoins
set_option maxRecDepth 100000
namespace Go.Proofs.YtjodkcjlipecdaaGreatDoor

structure PPend where
  pid : Int
  epoch : Int
  part : Int
  off : Int
deriving DecidableEq

structure POff where
  gen : Int
  next : Int
  com : List Int
  pend : List PPend

def isNum (n : Int) : Prop := 0 ≤ n ∧ n ≤ 1099511627776
def isProd (pid epoch : Int) : Prop := 1 ≤ pid ∧ pid ≤ 8 ∧ 1 ≤ epoch ∧ epoch ≤ 1099511627776
def POff.isPart (O : POff) (p : Int) : Prop := 0 ≤ p ∧ p < O.com.length
instance (n : Int) : Decidable (isNum n) := by unfold isNum; infer_instance
instance (a b : Int) : Decidable (isProd a b) := by unfold isProd; infer_instance
instance (O : POff) (p : Int) : Decidable (O.isPart p) := by unfold POff.isPart; infer_instance

/-- What is committed of a partition. -/
def POff.at (O : POff) (p : Int) : Int := O.com.getD p.toNat 0
/-- What is pending of a partition. -/
def POff.ofPart (O : POff) (p : Int) : List PPend := O.pend.filter fun x => x.part == p
/-- What is pending of a producer. -/
def POff.ofPid (O : POff) (pid : Int) : List PPend := O.pend.filter fun x => x.pid == pid
def putCom (com : List Int) (l : List PPend) : List Int := l.foldl (fun c x => c.set x.part.toNat x.off) com

/-- A note: its kind, four numbers. -/
structure PNote where
  kind : Int
  a : Int
  b : Int
  c : Int
  d : Int
def PNote.nums (n : PNote) : List Int := [n.kind, n.a, n.b, n.c, n.d]

def POff.fold (O : POff) (n : PNote) : Option POff :=
  if n.kind = 1 then
    if ¬ isNum n.a ∨ ¬ isNum n.b ∨ n.a < O.gen ∨ n.b < O.next ∨ n.c ≠ 0 ∨ n.d ≠ 0 then none else some { O with gen := n.a, next := n.b }
  else if n.kind = 2 then
    if ¬ isProd n.a n.b ∨ ¬ O.isPart n.c ∨ ¬ isNum n.d ∨ n.d < O.at n.c ∨ O.ofPart n.c ≠ [] then none else some { O with pend := O.pend ++ [⟨n.a, n.b, n.c, n.d⟩] }
  else if n.kind = 3 then
    if ¬ isProd n.a n.b ∨ (n.c ≠ 0 ∧ n.c ≠ 1) ∨ n.d ≠ 0 ∨ O.ofPid n.a = [] then none
    else some { O with com := if n.c = 1 then putCom O.com (O.ofPid n.a) else O.com, pend := O.pend.filter fun x => !(x.pid == n.a) }
  else none

structure POff.Ok (O : POff) : Prop where
  gen : isNum O.gen
  next : isNum O.next
  com : ∀ n ∈ O.com, isNum n
  pend : ∀ x ∈ O.pend, isProd x.pid x.epoch ∧ O.isPart x.part ∧ isNum x.off ∧ O.at x.part ≤ x.off
  once : O.pend.Pairwise fun x y => x.part ≠ y.part

theorem putCom_len (com : List Int) (l : List PPend) : (putCom com l).length = com.length := by
  induction l generalizing com with
  | nil => rfl
  | cons x l ih => unfold putCom at ih ⊢; rw [List.foldl_cons, ih]; simp

/-- A partition that none of them is of stays. -/
theorem putCom_other (com : List Int) (l : List PPend) (p : Int) (h : ∀ x ∈ l, 0 ≤ x.part ∧ x.part ≠ p) (hp : 0 ≤ p) : (putCom com l).getD p.toNat 0 = com.getD p.toNat 0 := by
  induction l generalizing com with
  | nil => rfl
  | cons x l ih =>
    unfold putCom at ih ⊢
    rw [List.foldl_cons, ih _ (fun y hy => h y (List.mem_cons_of_mem _ hy))]
    have h1 := h x (List.mem_cons_self ..)
    have hne : x.part.toNat ≠ p.toNat := by omega
    simp only [List.getD_eq_getElem?_getD]
    rw [List.getElem?_set_ne hne]

/-- A partition that one of them is of has its offset. -/
theorem putCom_one (com : List Int) (l : List PPend) {x : PPend} (hx : x ∈ l) (h : ∀ y ∈ l, 0 ≤ y.part ∧ y.part < com.length) (ho : l.Pairwise fun x y => x.part ≠ y.part) : (putCom com l).getD x.part.toNat 0 = x.off := by
  induction l generalizing com with
  | nil => cases hx
  | cons y l ih =>
    obtain ⟨ho1, ho2⟩ := List.pairwise_cons.1 ho
    have hy := h y (List.mem_cons_self ..)
    rcases List.mem_cons.1 hx with rfl | hx
    · have h9 := putCom_other (com.set x.part.toNat x.off) l x.part (fun z hz => ⟨(h z (List.mem_cons_of_mem _ hz)).1, fun e => ho1 z hz e.symm⟩) hy.1
      unfold putCom at h9 ⊢
      rw [List.foldl_cons, h9]
      simp only [List.getD_eq_getElem?_getD]
      rw [List.getElem?_set_self (by omega)]; rfl
    · unfold putCom at ih ⊢
      rw [List.foldl_cons]
      exact ih _ hx (fun z hz => by rw [List.length_set]; exact h z (List.mem_cons_of_mem _ hz)) ho2

theorem putCom_mem {com : List Int} {l : List PPend} {n : Int} (h : n ∈ putCom com l) : n ∈ com ∨ ∃ x ∈ l, n = x.off := by
  induction l generalizing com with
  | nil => exact .inl h
  | cons x l ih =>
    unfold putCom at ih h
    rw [List.foldl_cons] at h
    rcases ih h with h1 | ⟨y, hy, e⟩
    · rcases List.mem_or_eq_of_mem_set h1 with h2 | h2
      · exact .inl h2
      · exact .inr ⟨x, List.mem_cons_self .., h2⟩
    · exact .inr ⟨y, List.mem_cons_of_mem _ hy, e⟩

theorem ofPart_nil {O : POff} {p : Int} (h : O.ofPart p = []) : ∀ x ∈ O.pend, x.part ≠ p := by
  intro x hx e
  have : x ∈ O.ofPart p := List.mem_filter.2 ⟨hx, by simpa using e⟩
  rw [h] at this; cases this

theorem ofPid_mem {O : POff} {a : Int} {x : PPend} : x ∈ O.ofPid a ↔ x ∈ O.pend ∧ x.pid = a := by
  unfold POff.ofPid
  rw [List.mem_filter]
  simp

/-- What a note that fits changes. -/
structure Folds (O O' : POff) (n : PNote) : Prop where
  ok : O'.Ok
  len : O'.com.length = O.com.length
  gen : O.gen ≤ O'.gen
  next : O.next ≤ O'.next
  rise : ∀ p, O.isPart p → O.at p ≤ O'.at p
  moved : ∀ p, O.isPart p → O.at p ≠ O'.at p → n.kind = 3 ∧ n.c = 1 ∧ ∃ x ∈ O.pend, x.part = p ∧ x.off = O'.at p ∧ x.pid = n.a

theorem POff.Ok.folds {O O' : POff} {n : PNote} (h : O.Ok) (hf : O.fold n = some O') : Folds O O' n := by
  unfold POff.fold at hf
  by_cases h1 : n.kind = 1
  · rw [if_pos h1] at hf
    split at hf
    · cases hf
    · rename_i hn
      injection hf with hf; subst hf
      have hn : isNum n.a ∧ isNum n.b ∧ O.gen ≤ n.a ∧ O.next ≤ n.b := by
        refine ⟨Decidable.byContradiction fun h9 => hn (.inl h9), Decidable.byContradiction fun h9 => hn (.inr (.inl h9)), ?_, ?_⟩
        · have : ¬ n.a < O.gen := fun h9 => hn (.inr (.inr (.inl h9)))
          omega
        · have : ¬ n.b < O.next := fun h9 => hn (.inr (.inr (.inr (.inl h9))))
          omega
      exact ⟨⟨hn.1, hn.2.1, h.com, h.pend, h.once⟩, rfl, hn.2.2.1, hn.2.2.2, fun p _ => Int.le_refl _, fun p _ h9 => absurd rfl h9⟩
  · rw [if_neg h1] at hf
    by_cases h2 : n.kind = 2
    · rw [if_pos h2] at hf
      split at hf
      · cases hf
      · rename_i hn
        injection hf with hf; subst hf
        have hp : isProd n.a n.b := Decidable.byContradiction fun h9 => hn (.inl h9)
        have hpt : O.isPart n.c := Decidable.byContradiction fun h9 => hn (.inr (.inl h9))
        have hd : isNum n.d := Decidable.byContradiction fun h9 => hn (.inr (.inr (.inl h9)))
        have hat : O.at n.c ≤ n.d := by
          have : ¬ n.d < O.at n.c := fun h9 => hn (.inr (.inr (.inr (.inl h9))))
          omega
        have hof : O.ofPart n.c = [] := Decidable.byContradiction fun h9 => hn (.inr (.inr (.inr (.inr h9))))
        refine ⟨⟨h.gen, h.next, h.com, fun x hx => ?_, ?_⟩, rfl, Int.le_refl _, Int.le_refl _, fun p _ => Int.le_refl _, fun p _ h9 => absurd rfl h9⟩
        · rcases List.mem_append.1 hx with hx | hx
          · exact h.pend x hx
          · simp only [List.mem_singleton] at hx
            subst hx
            exact ⟨hp, hpt, hd, hat⟩
        · refine List.pairwise_append.2 ⟨h.once, List.pairwise_singleton _ _, fun x hx y hy => ?_⟩
          simp only [List.mem_singleton] at hy
          subst hy
          exact ofPart_nil hof x hx
    · rw [if_neg h2] at hf
      by_cases h3 : n.kind = 3
      · rw [if_pos h3] at hf
        split at hf
        · cases hf
        · rename_i hn
          injection hf with hf; subst hf
          have hmem : ∀ x ∈ O.ofPid n.a, x ∈ O.pend := fun x hx => (ofPid_mem.1 hx).1
          have honce : (O.ofPid n.a).Pairwise fun x y => x.part ≠ y.part := h.once.sublist List.filter_sublist
          have hpt : ∀ x ∈ O.ofPid n.a, 0 ≤ x.part ∧ x.part < O.com.length := fun x hx => (h.pend x (hmem x hx)).2.1
          -- what is committed of a partition now
          have hat : ∀ p, O.isPart p → ((putCom O.com (O.ofPid n.a)).getD p.toNat 0 = O.at p ∧ ∀ x ∈ O.ofPid n.a, x.part ≠ p) ∨ ∃ x ∈ O.ofPid n.a, x.part = p ∧ (putCom O.com (O.ofPid n.a)).getD p.toNat 0 = x.off := by
            intro p hp
            by_cases hex : ∃ x ∈ O.ofPid n.a, x.part = p
            · obtain ⟨x, hx, rfl⟩ := hex
              exact .inr ⟨x, hx, rfl, putCom_one O.com _ hx hpt honce⟩
            · have hne : ∀ x ∈ O.ofPid n.a, x.part ≠ p := fun x hx e => hex ⟨x, hx, e⟩
              exact .inl ⟨putCom_other O.com _ p (fun x hx => ⟨(hpt x hx).1, hne x hx⟩) hp.1, hne⟩
          by_cases hc : n.c = 1
          · simp only [if_pos hc]
            refine ⟨⟨h.gen, h.next, fun m hm => ?_, fun x hx => ?_, h.once.sublist List.filter_sublist⟩, putCom_len _ _, Int.le_refl _, Int.le_refl _, fun p hp => ?_, fun p hp h9 => ?_⟩
            · rcases putCom_mem hm with h9 | ⟨x, hx, rfl⟩
              · exact h.com m h9
              · exact (h.pend x (hmem x hx)).2.2.1
            · obtain ⟨hx1, hx2⟩ := List.mem_filter.1 hx
              obtain ⟨p1, p2, p3, p4⟩ := h.pend x hx1
              refine ⟨p1, ⟨p2.1, by show x.part < ((putCom O.com (O.ofPid n.a)).length : Int); rw [putCom_len]; exact p2.2⟩, p3, ?_⟩
              rcases hat x.part p2 with ⟨h9, _⟩ | ⟨y, hy, hyp, h9⟩
              · show (putCom O.com (O.ofPid n.a)).getD x.part.toNat 0 ≤ x.off
                rw [h9]; exact p4
              · exfalso
                have hyd := ofPid_mem.1 hy
                have hxy : y ≠ x := by
                  rintro rfl
                  simp [hyd.2] at hx2
                have : ∀ {l : List PPend}, l.Pairwise (fun x y => x.part ≠ y.part) → x ∈ l → y ∈ l → x.part ≠ y.part := by
                  intro l hl
                  induction l with
                  | nil => intro h; cases h
                  | cons z l ih =>
                    obtain ⟨z1, z2⟩ := List.pairwise_cons.1 hl
                    intro ha hb
                    rcases List.mem_cons.1 ha with ha1 | ha2
                    · rcases List.mem_cons.1 hb with hb1 | hb2
                      · exact absurd (hb1.trans ha1.symm) hxy
                      · rw [ha1]; exact z1 y hb2
                    · rcases List.mem_cons.1 hb with hb1 | hb2
                      · rw [hb1]; exact fun e => z1 x ha2 e.symm
                      · exact ih z2 ha2 hb2
                exact this h.once hx1 hyd.1 hyp.symm
            · show O.at p ≤ (putCom O.com (O.ofPid n.a)).getD p.toNat 0
              rcases hat p hp with ⟨h9, _⟩ | ⟨y, hy, rfl, h9⟩
              · omega
              · rw [h9]; exact (h.pend y (hmem y hy)).2.2.2
            · have h9' : O.at p ≠ (putCom O.com (O.ofPid n.a)).getD p.toNat 0 := h9
              rcases hat p hp with ⟨h10, _⟩ | ⟨y, hy, rfl, h10⟩
              · exact absurd h10.symm h9'
              · exact ⟨h3, hc, y, hmem y hy, rfl, h10.symm, (ofPid_mem.1 hy).2⟩
          · simp only [if_neg hc]
            exact ⟨⟨h.gen, h.next, h.com, fun x hx => h.pend x (List.mem_filter.1 hx).1, h.once.sublist List.filter_sublist⟩, rfl, Int.le_refl _, Int.le_refl _, fun p _ => Int.le_refl _, fun p _ h9 => absurd rfl h9⟩
      · rw [if_neg h3] at hf; cases hf
end Go.Proofs.YtjodkcjlipecdaaGreatDoor

namespace Go.Proofs.YtjodkcjlipecdaaGreatDoor
open Go.RowKit

set_option maxHeartbeats 1000000 in
theorem producer_any (a b : Int) (w : World) : Calls Tryz.prog 85 #[.int .i64 a, .int .i64 b] w fun e w' => e = .returned (.bool (decide (isProd a b))) ∧ w = w' := by
  by_cases h1 : 1 ≤ a
  · by_cases h2 : a ≤ 8
    · by_cases h3 : 1 ≤ b
      · by_cases h4 : b ≤ 1099511627776
        · have hp : decide (isProd a b) = true := decide_eq_true (by unfold isProd; omega)
          rw [hp]
          go_enter Tryz.func85, Tryz.ntmps85
          go_wp2_with fail
          go_ret
          exact ⟨rfl, rfl⟩
        · have hp : decide (isProd a b) = false := decide_eq_false (by unfold isProd; omega)
          rw [hp]
          go_enter Tryz.func85, Tryz.ntmps85
          go_wp2_with fail
          go_ret
          exact ⟨rfl, rfl⟩
      · have hp : decide (isProd a b) = false := decide_eq_false (by unfold isProd; omega)
        rw [hp]
        go_enter Tryz.func85, Tryz.ntmps85
        go_wp2_with fail
        go_ret
        exact ⟨rfl, rfl⟩
    · have hp : decide (isProd a b) = false := decide_eq_false (by unfold isProd; omega)
      rw [hp]
      go_enter Tryz.func85, Tryz.ntmps85
      go_wp2_with fail
      go_ret
      exact ⟨rfl, rfl⟩
  · have hp : decide (isProd a b) = false := decide_eq_false (by unfold isProd; omega)
    rw [hp]
    go_enter Tryz.func85, Tryz.ntmps85
    go_wp2_with fail
    go_ret
    exact ⟨rfl, rfl⟩

set_option maxHeartbeats 1000000 in
theorem within1_any (n : Int) (w : World) : Calls Tryz.prog 141 #[.int .i64 n] w fun e w' => e = .returned (.bool (!decide (isNum n))) ∧ w = w' := by
  by_cases h1 : n < 0
  · skip
    have hp : decide (isNum n) = false := decide_eq_false (by unfold isNum; omega)
    rw [hp]
    go_enter Tryz.func141, Tryz.ntmps141
    go_wp2_with fail
    go_ret
    exact ⟨rfl, rfl⟩
  · by_cases h2 : 1099511627776 < n
    · skip
      have hp : decide (isNum n) = false := decide_eq_false (by unfold isNum; omega)
      rw [hp]
      go_enter Tryz.func141, Tryz.ntmps141
      go_wp2_with fail
      go_ret
      exact ⟨rfl, rfl⟩
    · have d1 : decide (n < 0) = false := decide_eq_false h1
      have d2 : decide (1099511627776 < n) = false := decide_eq_false h2
      have hp : decide (isNum n) = true := decide_eq_true (by unfold isNum; omega)
      rw [hp]
      go_enter Tryz.func141, Tryz.ntmps141
      go_wp2_with fail
      go_ret
      exact ⟨rfl, rfl⟩

set_option maxHeartbeats 1000000 in
theorem indexInt_any (b cap : Nat) (xs : List Int) (w : World) (hl : xs.length ≤ 1000) (hc : ∀ j x, xs[j]? = some x → w.cell? ⟨b, j, none⟩ = some (.int .i64 x)) :
    Calls Tryz.prog 170 #[.slice (some ⟨b, 0, none⟩) xs.length cap, .func (.func 141) #[] #[]] w
      fun e w' => (∃ r : Int, e = .returned (.int .i64 r) ∧ (r < 0 ↔ ∀ x ∈ xs, isNum x) ∧ -1 ≤ r) ∧ w = w' := by
  have HC := hid hc
  clear hc
  go_enter Tryz.func170, Tryz.ntmps170
  go_wp2_with fail
  go_loopw [8] (fun c wr => ∃ k : Nat, k ≤ xs.length ∧ c = .int .i64 k ∧ wr = w ∧ ∀ x ∈ xs.take k, isNum x) (fun c _ => xs.length - (intOf c).toNat)
  case atStart => exact ⟨0, by omega, rfl, rfl, by simp⟩
  case round =>
    obtain ⟨k, hk, rfl, rfl, hall⟩ := hrel
    have HALL := hid hall
    clear hall
    by_cases hlt : k < xs.length
    · have hx := HC.out k xs[k] (List.getElem?_eq_getElem hlt)
      have htk : xs.take (k + 1) = xs.take k ++ [xs[k]] := by rw [List.take_succ_eq_append_getElem hlt]
      have HTK := hid htk
      have HMEM := hid (List.getElem_mem hlt)
      clear htk
      generalize xs[k] = x at hx HTK HMEM
      have hk0 : (0 : Int) ≤ (k : Int) := by omega
      have hk1 : (k : Int) < (xs.length : Int) := by omega
      go_wp2_with fail
      refine (within1_any x _).mono ?_
      rintro e w' ⟨rfl, rfl⟩
      by_cases hn : isNum x
      · have hp : decide (isNum x) = true := decide_eq_true hn
        rw [hp]
        go_wp2_with fail
        go_roundw
        case rel =>
          refine ⟨k + 1, by omega, by go_num, trivial, fun y hy => ?_⟩
          rw [HTK.out] at hy
          rcases List.mem_append.1 hy with hy | hy
          · exact HALL.out y hy
          · simp only [List.mem_singleton] at hy; rw [hy]; exact hn
        case measure => simp [intOf]; omega
      · have hp : decide (isNum x) = false := decide_eq_false hn
        rw [hp]
        go_wp2_with fail
        go_ret
        exact ⟨⟨k, rfl, ⟨fun h => by omega, fun h => absurd (h x HMEM.out) hn⟩, by omega⟩, rfl⟩
    · obtain rfl : k = xs.length := by omega
      go_wp2_with fail
      go_ret
      refine ⟨⟨-1, rfl, ⟨fun _ x hx => HALL.out x (by rw [List.take_length]; exact hx), fun _ => by omega⟩, by omega⟩, rfl⟩

set_option maxHeartbeats 1000000 in
theorem within_any (b cap : Nat) (xs : List Int) (w : World) (hl : xs.length ≤ 1000) (hc : ∀ j x, xs[j]? = some x → w.cell? ⟨b, j, none⟩ = some (.int .i64 x)) :
    Calls Tryz.prog 87 #[.slice (some ⟨b, 0, none⟩) xs.length cap] w fun e w' => e = .returned (.bool (decide (∀ x ∈ xs, isNum x))) ∧ w = w' := by
  have hcf : Calls Tryz.prog 140 #[.slice (some ⟨b, 0, none⟩) xs.length cap, .func (.func 141) #[] #[]] w fun e w' => e = .returned (.bool (!decide (∀ x ∈ xs, isNum x))) ∧ w = w' := by
    go_enter Tryz.func140, Tryz.ntmps140
    go_wp2_with fail
    refine (indexInt_any b cap xs w hl hc).mono ?_
    rintro e w' ⟨⟨r, rfl, hr, hr2⟩, rfl⟩
    by_cases h : ∀ x ∈ xs, isNum x
    · have h1 := hr.2 h
      have hd : decide (0 ≤ r) = false := decide_eq_false (by omega)
      have HP := hid (decide_eq_true h)
      clear hr h
      go_wp2_with fail
      go_ret
      exact ⟨by rw [HP.out]; rfl, rfl⟩
    · have h1 : ¬ r < 0 := fun h9 => h (hr.1 h9)
      have hd : decide (0 ≤ r) = true := decide_eq_true (by omega)
      have HP := hid (decide_eq_false h)
      clear hr h
      go_wp2_with fail
      go_ret
      exact ⟨by rw [HP.out]; rfl, rfl⟩
  clear hc
  go_enter Tryz.func87, Tryz.ntmps87
  go_wp2_with fail
  refine hcf.mono ?_
  rintro e w' ⟨rfl, rfl⟩
  clear hcf
  obtain ⟨p, HP⟩ : ∃ p, Hid (decide (∀ x ∈ xs, isNum x) = p) := ⟨_, hid rfl⟩
  rw [HP.out]
  cases p
  all_goals
    go_wp2_with fail
    go_ret
    exact ⟨by rw [HP.out]; rfl, rfl⟩
end Go.Proofs.YtjodkcjlipecdaaGreatDoor

namespace Go.Proofs.YtjodkcjlipecdaaGreatDoor
open Go.RowKit

theorem own_set {w : World} {base g m cap : Nat} {e : TypeId} {size n : Nat} {xs : List Value} (h : w.ownsRow base e size (.slice (some ⟨g, 0, none⟩) m cap) n xs) (i : Nat) (u : Value) :
    (w.setCell ⟨g, i, none⟩ u).ownsRow base e size (.slice (some ⟨g, 0, none⟩) m cap) n (xs.set i u) := by
  obtain ⟨h1, h2⟩ := h
  rcases h2 with ⟨h2, _⟩ | ⟨g2, c2, cur, h2, h3, h4, h5, h6, h7, h8⟩
  · cases h2
  · simp only [Value.slice.injEq, Option.some.injEq, Addr.mk.injEq, and_true] at h2
    obtain ⟨rfl, rfl, rfl⟩ := h2
    refine ⟨by rw [List.length_set]; exact h1, .inr ⟨g, cap, cur.setIfInBounds i u, rfl, h3, ?_, h5, h6, by simp [h7], ?_⟩⟩
    · simp [World.setCell, Array.getElem?_modify, h4]
    · rw [Array.toList_setIfInBounds, List.take_set, h8]

theorem own_set_far {w : World} {base g m cap : Nat} {e : TypeId} {size n : Nat} {xs : List Value} (h : w.ownsRow base e size (.slice (some ⟨g, 0, none⟩) m cap) n xs) {i : Nat} (hi : n * size ≤ i) (u : Value) :
    (w.setCell ⟨g, i, none⟩ u).ownsRow base e size (.slice (some ⟨g, 0, none⟩) m cap) n xs := by
  have h9 := own_set h i u
  rwa [List.set_eq_of_length_le (by rw [h.1]; exact hi)] at h9

theorem own_cut {w : World} {base g m cap : Nat} {e : TypeId} {size n : Nat} {xs : List Value} (h : w.ownsRow base e size (.slice (some ⟨g, 0, none⟩) m cap) n xs) {i : Nat} (hi : i ≤ n) :
    w.ownsRow base e size (.slice (some ⟨g, 0, none⟩) i cap) i (xs.take (i * size)) := by
  obtain ⟨h1, h2⟩ := h
  rcases h2 with ⟨h2, _⟩ | ⟨g2, c2, cur, h2, h3, h4, h5, h6, h7, h8⟩
  · cases h2
  · simp only [Value.slice.injEq, Option.some.injEq, Addr.mk.injEq, and_true] at h2
    obtain ⟨rfl, rfl, rfl⟩ := h2
    have hm := Nat.mul_le_mul_right size hi
    refine ⟨by rw [List.length_take]; omega, .inr ⟨g, cap, cur, rfl, h3, h4, by omega, h6, h7, ?_⟩⟩
    rw [← h8, List.take_take, Nat.min_eq_left hm]

theorem own_cells_far {base g m cap : Nat} {e : TypeId} {size n : Nat} {xs : List Value} : ∀ (vs : List Value) {w : World} {i : Nat}, w.ownsRow base e size (.slice (some ⟨g, 0, none⟩) m cap) n xs → n * size ≤ i →
    (w.setCells g i vs).ownsRow base e size (.slice (some ⟨g, 0, none⟩) m cap) n xs
  | [], _, _, h, _ => h
  | v :: vs, _, i, h, hi => own_cells_far vs (own_set_far h hi v) (by omega)

theorem fr_cells {S : Nat → Prop} {a : World} {g : Nat} (hg : S g) : ∀ (vs : List Value) {w : World} {i : Nat}, Fr S a w → Fr S a (w.setCells g i vs)
  | [], _, _, h => h
  | v :: vs, _, i, h => fr_cells hg vs (h.setCell (p := ⟨g, i, none⟩) (.inl hg) v)

/-- clear, of a slice's end. -/
theorem run_clear_rows {P : Program} (w : World) (t e ty : TypeId) (z : Value) (size : Nat) (ht : P.underlying t = some (.slice e)) (hv : ∀ w, (zeroValue e).run P w = .ok z w) (hz : z.cells.size = size) (h1 : ∀ v ∈ z.cells.toList, v.oneCell' = true) (hs : 0 < size) (b o n c : Nat) (hn : 0 < n)
    (hc : ∀ j, j < n * size → (w.cell? ⟨b, o + j, none⟩).isSome = true) (hf : ∀ j, j < n * size → w.frozen? ⟨b, o + j, none⟩ = false) :
    (Builtin.clear_ #[t] ty #[.slice (some ⟨b, o, none⟩) n c]).run P w = .ok (.tuple #[]) (w.setCells b o (Builtin.zeroCells z.cells n).toList) := by
  have hlen : (Builtin.zeroCells z.cells n).toList.length = n * size := by simp [Builtin.zeroCells, hz]
  have hone : ∀ v ∈ (Builtin.zeroCells z.cells n).toList, v.oneCell' = true := by
    intro v hv'
    unfold Builtin.zeroCells at hv'
    simp only [Array.toList_map, Array.toList_range, List.mem_map, List.mem_range] at hv'
    obtain ⟨i, _, rfl⟩ := hv'
    have hi : i % z.cells.size < z.cells.size := Nat.mod_lt _ (by omega)
    rw [getElem!_pos z.cells _ hi]
    exact h1 _ (by simp)
  have hst := run_storeCells_cells (P := P) b o (Builtin.zeroCells z.cells n).toList 0 w (by rw [hlen]; simpa using hc) (by rw [hlen]; simpa using hf) hone
  simp only [Nat.add_zero] at hst
  obtain ⟨m, rfl⟩ : ∃ m, n = m + 1 := ⟨n - 1, by omega⟩
  simp [Builtin.clear_, run_underlying ht, hv, hst]

theorem row_free {w : World} {base g m cap : Nat} {e : TypeId} {size n : Nat} {xs : List Value} (h : w.ownsRow base e size (.slice (some ⟨g, 0, none⟩) m cap) n xs) (k : Nat) : w.frozen? ⟨g, k, none⟩ = false := by
  rcases h.2 with ⟨h2, _⟩ | ⟨g2, c2, cur, h2, h3, h4, _⟩
  · cases h2
  · simp only [Value.slice.injEq, Option.some.injEq, Addr.mk.injEq, and_true] at h2
    obtain ⟨rfl, _⟩ := h2
    exact Blk.free (T := e) h4 k
end Go.Proofs.YtjodkcjlipecdaaGreatDoor

namespace Go.Proofs.YtjodkcjlipecdaaGreatDoor
open Go.RowKit

def PPend.val (x : PPend) : Value := .agg #[.int .i64 x.pid, .int .i64 x.epoch, .int .i64 x.part, .int .i64 x.off]
def PPend.cells (x : PPend) : List Value := [.int .i64 x.pid, .int .i64 x.epoch, .int .i64 x.part, .int .i64 x.off]
def pendCells (l : List PPend) : List Value := l.flatMap PPend.cells

theorem pendCells_len (l : List PPend) : (pendCells l).length = l.length * 4 := by
  induction l with
  | nil => rfl
  | cons x l ih => unfold pendCells at ih ⊢; rw [List.flatMap_cons, List.length_append, ih]; simp [PPend.cells]; omega
theorem pendCells_app (a b : List PPend) : pendCells (a ++ b) = pendCells a ++ pendCells b := by unfold pendCells; rw [List.flatMap_append]

theorem pendCells_at : ∀ (q : List PPend) (i : Nat) (x : PPend), q[i]? = some x → (pendCells q)[i * 4]? = some (.int .i64 x.pid) ∧ (pendCells q)[i * 4 + 1]? = some (.int .i64 x.epoch) ∧ (pendCells q)[i * 4 + 2]? = some (.int .i64 x.part) ∧ (pendCells q)[i * 4 + 3]? = some (.int .i64 x.off)
  | [], _, _, h => by simp at h
  | y :: q, 0, x, h => by
    simp at h
    subst h
    simp [pendCells, PPend.cells]
  | y :: q, i + 1, x, h => by
    have := pendCells_at q i x (by simpa using h)
    have e : pendCells (y :: q) = PPend.cells y ++ pendCells q := rfl
    rw [e, show (i + 1) * 4 = i * 4 + 4 from by omega, show i * 4 + 4 + 1 = (i * 4 + 1) + 4 from by omega, show i * 4 + 4 + 2 = (i * 4 + 2) + 4 from by omega, show i * 4 + 4 + 3 = (i * 4 + 3) + 4 from by omega]
    simpa [PPend.cells] using this

/-- The cells of pending offsets. -/
def PendRead (w : World) (g : Nat) (l : List PPend) : Prop :=
  ∀ j x, l[j]? = some x → w.cell? ⟨g, j * 4, none⟩ = some (.int .i64 x.pid) ∧ w.cell? ⟨g, j * 4 + 1, none⟩ = some (.int .i64 x.epoch) ∧ w.cell? ⟨g, j * 4 + 2, none⟩ = some (.int .i64 x.part) ∧ w.cell? ⟨g, j * 4 + 3, none⟩ = some (.int .i64 x.off)

theorem PendRead.below {w w' : World} {g : Nat} {l : List PPend} (h : PendRead w g l) (hb : Below w.heap.size w w') (hg : g < w.heap.size) : PendRead w' g l := by
  intro j x hx
  obtain ⟨h0, h1, h2, h3⟩ := h j x hx
  exact ⟨(hb.cell (p := ⟨g, j * 4, none⟩) hg).trans h0, (hb.cell (p := ⟨g, j * 4 + 1, none⟩) hg).trans h1, (hb.cell (p := ⟨g, j * 4 + 2, none⟩) hg).trans h2, (hb.cell (p := ⟨g, j * 4 + 3, none⟩) hg).trans h3⟩

theorem PendRead.own {w : World} {base g n cap : Nat} {l : List PPend} (h : w.ownsRow base 78 4 (.slice (some ⟨g, 0, none⟩) n cap) l.length (pendCells l)) : PendRead w g l := by
  intro j x hx
  obtain ⟨e0, e1, e2, e3⟩ := pendCells_at l j x hx
  have hlt := (List.getElem?_eq_some_iff.1 hx).1
  obtain ⟨rfl, _⟩ : n = l.length ∧ True := by
    rcases h.2 with ⟨h2, _⟩ | ⟨g2, c2, cur, h2, _⟩
    · cases h2
    · injection h2 with _ h3; exact ⟨h3, trivial⟩
  exact ⟨(h.cellAt _ (by omega)).trans e0, (h.cellAt _ (by omega)).trans e1, (h.cellAt _ (by omega)).trans e2, (h.cellAt _ (by omega)).trans e3⟩

/-- A function tells q of a pending offset, whatever has become of the blocks in S and of new ones. -/
def PredFr (S : Nat → Prop) (w0 : World) (gf : Nat) (lb : Array Value) (q : PPend → Bool) : Prop :=
  ∀ (W : World) (x : PPend), Fr S w0 W → Calls Tryz.prog gf (#[x.val] ++ lb) W fun e w' => e = .returned (.bool (q x)) ∧ Below W.heap.size W w'

/-- Where the first one is of which q holds. -/
def Idx (q : PPend → Bool) (l : List PPend) (r : Int) : Prop :=
  (r = -1 ∧ ∀ x ∈ l, q x = false) ∨ ∃ (k : Nat) (x : PPend), r = k ∧ l[k]? = some x ∧ q x = true ∧ ∀ y ∈ l.take k, q y = false

set_option maxHeartbeats 1000000 in
theorem indexPend_any (g cap : Nat) (l : List PPend) (gf : Nat) (lb : Array Value) (q : PPend → Bool) (w : World) (hl : l.length ≤ 1000000000) (hg : g < w.heap.size) (hc : PendRead w g l)
    (eg : ∀ args w, (callFunc gf args).run Tryz.prog w = .ok (.enter gf args) w) (hp : PredFr (fun _ => False) w gf lb q) :
    Calls Tryz.prog 144 #[.slice (some ⟨g, 0, none⟩) l.length cap, .func (.func gf) #[] lb] w
      fun e w' => (∃ r : Int, e = .returned (.int .i64 r) ∧ Idx q l r) ∧ Below w.heap.size w w' := by
  have HC := hid hc
  have HP := hid hp
  clear hc hp
  go_enter Tryz.func144, Tryz.ntmps144
  go_wp2_with fail
  go_loopw [8] (fun c wr => ∃ k : Nat, k ≤ l.length ∧ c = .int .i64 k ∧ Below w.heap.size w wr ∧ ∀ x ∈ l.take k, q x = false) (fun c _ => l.length - (intOf c).toNat)
  case atStart => exact ⟨0, by omega, rfl, Below.refl _ _, by simp⟩
  case round =>
    obtain ⟨k, hk, rfl, hbel, hall⟩ := hrel
    have HALL := hid hall
    have HB := hid hbel
    clear hall hbel
    by_cases hlt : k < l.length
    · obtain ⟨x, hx⟩ : ∃ x, l[k]? = some x := ⟨_, List.getElem?_eq_getElem hlt⟩
      obtain ⟨c0, c1, c2, c3⟩ := HC.out.below HB.out hg k x hx
      have hk0 : (0 : Int) ≤ (k : Int) := by omega
      have hk1 : (k : Int) < (l.length : Int) := by omega
      have hcall := HP.out wr x (Fr.of_below HB.out)
      have htk : l.take (k + 1) = l.take k ++ [x] := by rw [List.take_add_one, hx]; rfl
      have HTK := hid htk
      have HX := hid hx
      clear htk hx
      unfold PPend.val at hcall
      cases hq : q x with
      | true =>
        have HQ := hid hq
        rw [hq] at hcall
        clear hq
        go_wp2_with fail
        refine hcall.mono ?_
        rintro e w' ⟨rfl, hb'⟩
        go_wp2_with fail
        go_ret
        exact ⟨⟨k, rfl, .inr ⟨k, x, rfl, HX.out, HQ.out, HALL.out⟩⟩, bel_next HB.out hb'⟩
      | false =>
        have HQ := hid hq
        rw [hq] at hcall
        clear hq
        go_wp2_with fail
        refine hcall.mono ?_
        rintro e w' ⟨rfl, hb'⟩
        go_wp2_with fail
        go_roundw
        case rel =>
          refine ⟨k + 1, by omega, by go_num, bel_next HB.out hb', fun y hy => ?_⟩
          rw [HTK.out] at hy
          rcases List.mem_append.1 hy with hy | hy
          · exact HALL.out y hy
          · simp only [List.mem_singleton] at hy; rw [hy]; exact HQ.out
        case measure => simp [intOf]; omega
    · obtain rfl : k = l.length := by omega
      go_wp2_with fail
      go_ret
      exact ⟨⟨-1, rfl, .inl ⟨rfl, fun x hx => HALL.out x (by rw [List.take_length]; exact hx)⟩⟩, HB.out⟩

theorem pendCells_set : ∀ (l : List PPend) (i : Nat) (x : PPend), i < l.length → pendCells (l.set i x) = ((((pendCells l).set (i * 4) (.int .i64 x.pid)).set (i * 4 + 1) (.int .i64 x.epoch)).set (i * 4 + 2) (.int .i64 x.part)).set (i * 4 + 3) (.int .i64 x.off)
  | [], i, x, h => by simp at h
  | y :: l, 0, x, _ => by simp [pendCells, PPend.cells]
  | y :: l, i + 1, x, h => by
    have e : ∀ l, pendCells (y :: l) = PPend.cells y ++ pendCells l := fun _ => rfl
    rw [List.set_cons_succ, e, e, pendCells_set l i x (by simpa using h)]
    rw [show (i + 1) * 4 = i * 4 + 4 from by omega]
    simp only [PPend.cells, List.cons_append, List.nil_append, List.set_cons_succ]

/-- What DeleteFunc holds between two rounds: i were kept of the first j. -/
structure DelMid (base g cap : Nat) (l : List PPend) (q : PPend → Bool) (w : World) (i j : Nat) (m : List PPend) (wr : World) : Prop where
  len : m.length = l.length
  kept : m.take i = (l.take j).filter fun x => !q x
  rest : m.drop j = l.drop j
  lt : i < j
  le : j ≤ l.length
  row : wr.ownsRow base 78 4 (.slice (some ⟨g, 0, none⟩) l.length cap) l.length (pendCells m)
  fr : Fr (fun k => k = g) w wr

theorem DelMid.at {base g cap : Nat} {l : List PPend} {q : PPend → Bool} {w : World} {i j : Nat} {m : List PPend} {wr : World} (h : DelMid base g cap l q w i j m wr) {x : PPend} (hx : l[j]? = some x) : m[j]? = some x := by
  have h1 := congrArg (fun l => l[0]?) h.rest
  simpa [List.getElem?_drop, hx] using h1

theorem DelMid.skip {base g cap : Nat} {l : List PPend} {q : PPend → Bool} {w : World} {i j : Nat} {m : List PPend} {wr w' : World} (h : DelMid base g cap l q w i j m wr) {x : PPend} (hx : l[j]? = some x) (hq : q x = true) (hb : Below wr.heap.size wr w') : DelMid base g cap l q w i (j + 1) m w' := by
  have hlt := (List.getElem?_eq_some_iff.1 hx).1
  refine ⟨h.len, ?_, ?_, by have := h.lt; omega, by omega, own_bel h.row hb, h.fr.below hb⟩
  · rw [h.kept, List.take_add_one, hx]
    simp [List.filter_append, hq]
  · have h1 := congrArg (List.drop 1) h.rest
    simpa [List.drop_drop] using h1

theorem DelMid.keep {base g cap : Nat} {l : List PPend} {q : PPend → Bool} {w : World} {i j : Nat} {m : List PPend} {wr w' : World} (h : DelMid base g cap l q w i j m wr) {x : PPend} (hx : l[j]? = some x) (hq : q x = false) (hb : Below wr.heap.size wr w') :
    DelMid base g cap l q w (i + 1) (j + 1) (m.set i x) ((((w'.setCell ⟨g, i * 4, none⟩ (.int .i64 x.pid)).setCell ⟨g, i * 4 + 1, none⟩ (.int .i64 x.epoch)).setCell ⟨g, i * 4 + 2, none⟩ (.int .i64 x.part)).setCell ⟨g, i * 4 + 3, none⟩ (.int .i64 x.off)) := by
  have hlt := (List.getElem?_eq_some_iff.1 hx).1
  have hij := h.lt
  have hlen := h.len
  refine ⟨by rw [List.length_set]; exact h.len, ?_, ?_, by omega, by omega, ?_, ?_⟩
  · rw [List.take_succ_eq_append_getElem (by rw [List.length_set]; omega), List.take_set_of_le (Nat.le_refl i), h.kept, List.take_add_one, hx]
    simp [List.filter_append, hq]
  · have h1 := congrArg (List.drop 1) h.rest
    rw [List.drop_set_of_lt (by omega)]
    simpa [List.drop_drop] using h1
  · rw [pendCells_set _ _ _ (by omega)]
    exact own_set (own_set (own_set (own_set (own_bel h.row hb) _ _) _ _) _ _) _ _
  · exact ((((h.fr.below hb).setCell (p := ⟨g, i * 4, none⟩) (.inl rfl) _).setCell (p := ⟨g, i * 4 + 1, none⟩) (.inl rfl) _).setCell (p := ⟨g, i * 4 + 2, none⟩) (.inl rfl) _).setCell (p := ⟨g, i * 4 + 3, none⟩) (.inl rfl) _

theorem DelMid.done {base g cap : Nat} {l : List PPend} {q : PPend → Bool} {w : World} {i : Nat} {m : List PPend} {wr : World} (h : DelMid base g cap l q w i l.length m wr) (vs : List Value) :
    i = (l.filter fun x => !q x).length ∧ (wr.setCells g (i * 4) vs).ownsRow base 78 4 (.slice (some ⟨g, 0, none⟩) i cap) (l.filter fun x => !q x).length (pendCells (l.filter fun x => !q x)) ∧ Fr (fun k => k = g) w (wr.setCells g (i * 4) vs) := by
  have h1 := h.kept
  rw [List.take_length] at h1
  have hlt := h.lt
  have hlen := h.len
  have hi : i = (l.filter fun x => !q x).length := by rw [← h1, List.length_take]; omega
  refine ⟨hi, ?_, fr_cells (S := fun k => k = g) rfl vs h.fr⟩
  have h2 := own_cut h.row (i := i) (by omega)
  have h3 : (pendCells m).take (i * 4) = pendCells (l.filter fun x => !q x) := by
    have h4 : pendCells m = pendCells (m.take i) ++ pendCells (m.drop i) := by rw [← pendCells_app, List.take_append_drop]
    rw [h4, h1, List.take_append_of_le_length (by rw [pendCells_len, ← hi]; omega), List.take_of_length_le (by rw [pendCells_len, ← hi]; omega)]
  rw [h3] at h2
  rw [← hi]
  exact own_cells_far vs h2 (Nat.le_refl _)

theorem pend_zero : ∃ z, (∀ w, (zeroValue 78).run Tryz.prog w = .ok z w) ∧ z.cells.size = 4 ∧ ∀ v ∈ z.cells.toList, v.oneCell' = true :=
  ⟨.agg #[.int .i64 0, .int .i64 0, .int .i64 0, .int .i64 0], fun _ => by kernel_rfl, by kernel_rfl, by decide +kernel⟩

def DelPost (base g cap : Nat) (l : List PPend) (q : PPend → Bool) (w : World) (e : Ending) (w' : World) : Prop :=
  e = .returned (.slice (some ⟨g, 0, none⟩) (l.filter fun x => !q x).length cap) ∧ w'.ownsRow base 78 4 (.slice (some ⟨g, 0, none⟩) (l.filter fun x => !q x).length cap) (l.filter fun x => !q x).length (pendCells (l.filter fun x => !q x)) ∧ Fr (fun k => k = g) w w'

set_option maxHeartbeats 2000000 in
theorem deletePend_any (base g cap : Nat) (l : List PPend) (gf : Nat) (lb : Array Value) (q : PPend → Bool) (w : World) (hl : l.length ≤ 1000000000)
    (hown : w.ownsRow base 78 4 (.slice (some ⟨g, 0, none⟩) l.length cap) l.length (pendCells l))
    (eg : ∀ args w, (callFunc gf args).run Tryz.prog w = .ok (.enter gf args) w) (hp : PredFr (fun k => k = g) w gf lb q) :
    Calls Tryz.prog 142 #[.slice (some ⟨g, 0, none⟩) l.length cap, .func (.func gf) #[] lb] w (DelPost base g cap l q w) := by
  have hg : g < w.heap.size := (hown.lt g rfl).2
  have hcap : l.length ≤ cap := by
    rcases hown.2 with ⟨h2, _⟩ | ⟨g2, c2, cur, h2, _, _, h5, _⟩
    · cases h2
    · injection h2 with _ _ h3; omega
  have HO := hid hown
  have HP := hid hp
  have HIX := hid (indexPend_any g cap l gf lb q w hl hg (PendRead.own hown) eg (fun W x h => hp W x (h.mono fun _ _ h => h.elim)))
  clear hown hp
  go_enter Tryz.func142, Tryz.ntmps142
  go_wp2_with fail
  refine HIX.out.mono ?_
  rintro e w1 ⟨⟨r, rfl, hidx⟩, hb⟩
  have HB := hid hb
  clear hb HIX
  rcases hidx with ⟨rfl, hall⟩ | ⟨k0, x0, rfl, hx0, hq0, hall⟩
  · have hfil : (l.filter fun x => !q x) = l := List.filter_eq_self.2 (fun x hx => by rw [hall x hx]; rfl)
    have HF := hid hfil
    clear hfil hall
    go_wp2_with fail
    go_ret
    unfold DelPost
    rw [HF.out]
    exact ⟨rfl, own_bel HO.out HB.out, Fr.of_below HB.out⟩
  · have hk0 := (List.getElem?_eq_some_iff.1 hx0).1
    have hne1 : ((k0 : Int) == -1) = false := beq_eq_false_iff_ne.2 (by omega)
    have hne2 : decide ((k0 : Int) = -1) = false := decide_eq_false (by omega)
    have hstart : DelMid base g cap l q w k0 (k0 + 1) l w1 := by
      refine ⟨rfl, ?_, rfl, by omega, by omega, own_bel HO.out HB.out, Fr.of_below HB.out⟩
      rw [List.take_add_one, hx0, List.filter_append]
      have h1 : (l.take k0).filter (fun x => !q x) = l.take k0 := List.filter_eq_self.2 (fun x hx => by rw [hall x hx]; rfl)
      rw [h1]
      simp [hq0]
    have HS := hid hstart
    clear hstart hall hx0 hq0
    go_wp2_with fail
    go_loopw [5, 6] (fun ci cj wr => ∃ (i j : Nat) (m : List PPend), ci = .int .i64 i ∧ cj = .int .i64 j ∧ DelMid base g cap l q w i j m wr) (fun _ cj _ => l.length - (intOf cj).toNat)
    case atStart => exact ⟨k0, k0 + 1, l, rfl, by go_num, HS.out⟩
    case round =>
      obtain ⟨i, j, m, rfl, rfl, hmid⟩ := hrel
      have hij := hmid.lt
      have hjl := hmid.le
      have hml := hmid.len
      have hgr : g < wr.heap.size := (hmid.row.lt g rfl).2
      have hi0 : (0 : Int) ≤ (i : Int) := by omega
      have hj0 : (0 : Int) ≤ (j : Int) := by omega
      by_cases hlt : j < l.length
      · obtain ⟨x, hx⟩ : ∃ x, l[j]? = some x := ⟨_, List.getElem?_eq_getElem hlt⟩
        have hj1 : (j : Int) < (l.length : Int) := by omega
        have hi1 : (i : Int) < (l.length : Int) := by omega
        obtain ⟨c0, c1, c2, c3⟩ := PendRead.own (n := l.length) (by rw [hml]; exact hmid.row) j x (hmid.at hx)
        have HM := hid hmid
        have HX := hid hx
        clear hmid hx hij hjl hml
        have hcall := HP.out (wr.alloc (.cells #[.int .i64 x.pid, .int .i64 x.epoch, .int .i64 x.part, .int .i64 x.off] 78)) x (HM.out.fr.alloc _)
        unfold PPend.val at hcall
        have hblk := Blk.new wr #[.int .i64 x.pid, .int .i64 x.epoch, .int .i64 x.part, .int .i64 x.off] 78
        have hba : Below wr.heap.size wr (wr.alloc (.cells #[.int .i64 x.pid, .int .i64 x.epoch, .int .i64 x.part, .int .i64 x.off] 78)) := bel_alloc (Below.refl _ _) _
        have HBLK := hid hblk
        have HBA := hid hba
        clear hblk hba
        go_wp2_with fail
        refine hcall.mono ?_
        rintro e w2 ⟨rfl, hb2⟩
        have hb3 := bel_next HBA.out hb2
        obtain ⟨f0, f1, f2, f3⟩ : w2.cell? ⟨wr.heap.size, 0, none⟩ = some (.int .i64 x.pid) ∧ w2.cell? ⟨wr.heap.size, 1, none⟩ = some (.int .i64 x.epoch) ∧ w2.cell? ⟨wr.heap.size, 2, none⟩ = some (.int .i64 x.part) ∧ w2.cell? ⟨wr.heap.size, 3, none⟩ = some (.int .i64 x.off) := by
          have h9 := HBLK.out.below' hb2
          exact ⟨h9.cell rfl, h9.cell rfl, h9.cell rfl, h9.cell rfl⟩
        clear c0 c1 c2 c3 hcall hb2 HBA HBLK
        cases hq : q x with
        | true =>
          have HK := hid (HM.out.skip HX.out hq hb3)
          clear hq hb3
          go_wp2_with fail
          go_roundw
          case rel => exact ⟨i, j + 1, m, rfl, by go_num, HK.out⟩
          case measure => simp [intOf]; omega
        | false =>
          have HK := hid (HM.out.keep HX.out hq hb3)
          have hrow2 := own_bel HM.out.row hb3
          have z0 := row_free hrow2 (i * 4)
          have z1 := row_free hrow2 (i * 4 + 1)
          have z2 := row_free hrow2 (i * 4 + 2)
          have z3 := row_free hrow2 (i * 4 + 3)
          have hml := HM.out.len
          obtain ⟨y, hy⟩ : ∃ y, m[i]? = some y := ⟨_, List.getElem?_eq_getElem (by omega)⟩
          obtain ⟨c0, c1, c2, c3⟩ := PendRead.own (l := m) (n := l.length) (by rw [hml]; exact hrow2) i y hy
          have hne : g ≠ wr.heap.size := by omega
          clear hq hb3 hrow2 hml hy
          go_wp2_with fail
          go_roundw
          case rel => exact ⟨i + 1, j + 1, m.set i x, by go_num, by go_num, HK.out⟩
          case measure => simp [intOf]; omega
      · obtain rfl : j = l.length := by omega
        obtain ⟨z, hz0, hz1, hz2⟩ := pend_zero
        have hi2 : (i : Int) ≤ (l.length : Int) := by omega
        have hrow := hmid.row
        have hclr : ∀ ty, (Builtin.clear_ #[74] ty #[.slice (some ⟨g, i * 4, none⟩) (l.length - i) (cap - i)]).run Tryz.prog wr = .ok (.tuple #[]) (wr.setCells g (i * 4) (Builtin.zeroCells z.cells (l.length - i)).toList) :=
          fun ty => run_clear_rows wr _ _ ty z 4 Tryz.underlying74 hz0 hz1 hz2 (by decide) g (i * 4) (l.length - i) (cap - i) (by omega) (fun k hk => by
            have hlt9 : i * 4 + k < (pendCells m).length := by rw [pendCells_len]; omega
            rw [hrow.cellAt _ (by rw [pendCells_len] at hlt9; omega), List.getElem?_eq_getElem hlt9]; rfl) (fun k _ => row_free hrow _)
        have HD := hid (hmid.done (Builtin.zeroCells z.cells (l.length - i)).toList)
        clear hrow hmid hz0 hz1 hz2 hml
        generalize wr.setCells g (i * 4) (Builtin.zeroCells z.cells (l.length - i)).toList = w9 at hclr HD
        go_wp2_with fail
        go_ret
        obtain ⟨h1, h2, h3⟩ := HD.out
        unfold DelPost
        rw [h1] at h2 ⊢
        exact ⟨rfl, h2, h3⟩
end Go.Proofs.YtjodkcjlipecdaaGreatDoor

namespace Go.Proofs.YtjodkcjlipecdaaGreatDoor
open Go.RowKit

theorem Tryz.infoCloneInt : (Tryz.prog.info? 3).map (fun i => (i.zero, i.size, i.bytes)) = some (some (.int .i64 0), 1, 8) := by kernel_rfl

set_option maxHeartbeats 1000000 in
theorem cloneInt_any {base n : Nat} {v : Value} {xs : List Value} {w : World} (h : w.ownsRow base 3 1 v n xs) (h1 : ∀ u ∈ xs, u.oneCell' = true) (hn : n ≤ 1000000) :
    Calls Tryz.prog 84 #[v] w fun e w' => ∃ v', e = .returned v' ∧ w'.ownsRow w.heap.size 3 1 v' n xs ∧ Below w.heap.size w w' := by
  have q22 : ∀ (w : World) (a : Option Addr) (n c n' c' : Nat), (binOp .eql 40 (.slice a n c) (.slice none n' c')).run Tryz.prog w = .ok (.bool a.isNone) w := fun w a n c n' c' => Lib.run_eql_slice_nil w _ _ a n c n' c' Tryz.underlying40
  obtain ⟨i0, hi, hz0, hz1, hz2⟩ := info_parts Tryz.infoCloneInt
  rcases Joins.ownsRow_forms h with ⟨rfl, hz⟩ | ⟨g, cap, rfl⟩
  · subst hz
    have hx : xs = [] := by have := h.1; simpa using this
    subst hx
    clear h h1
    go_enter Tryz.func84, Tryz.ntmps84
    go_wp2_with fail
    go_ret
    exact ⟨_, rfl, World.ownsRow_nil _ _ _ _, Below.refl _ _⟩
  · have H := hid h
    have H1 := hid h1
    clear h h1
    go_enter Tryz.func84, Tryz.ntmps84
    go_wp2_with (at_builtin; refine wpList_append_own _ rfl _ _ 40 rfl w.heap.size 3 i0 _ 1 8 Tryz.underlying40 hi hz0 hz1 hz2 rfl (by omega) _ _ _ rfl (World.ownsRow_made w #[] 0 (Nat.le_refl _) (Nat.zero_le _) (by simp)) ⟨g, 0, none⟩ n cap xs rfl ?qc1 ?qc2 ?qc3 ?qc4 ?qc5 ?qc6 ?_)
    case qc1 => exact H.out.1
    case qc2 =>
      intro j u hj
      have hlt := (List.getElem?_eq_some_iff.1 hj).1
      rw [Addr.add_lit, Nat.zero_add]
      refine Lib.cell?_alloc_some _ ?_
      rw [H.out.cellAt j (by rw [← H.out.1]; exact hlt)]; exact hj
    case qc3 => exact H1.out
    case qc4 => unfold maxLen; omega
    case qc5 => omega
    case qc6 => simp
    intro v' w1 hown hgrow hnil
    have HO := hid hown
    have HG := hid hgrow
    clear hown hgrow hnil
    go_wp2_with fail
    go_ret
    refine ⟨v', rfl, HO.out, ?_⟩
    exact ((Below.refl _ w).alloc (Nat.le_refl _) _).grown HG.out (by simp) (by intro k hk; simp [Value.ownBlock] at hk; omega)

theorem Tryz.infoClonePend : (Tryz.prog.info? 78).map (fun i => (i.zero, i.size, i.bytes)) = some (some (.agg #[.int .i64 0, .int .i64 0, .int .i64 0, .int .i64 0]), 4, 32) := by kernel_rfl

set_option maxHeartbeats 1000000 in
theorem clonePend_any {base n : Nat} {v : Value} {xs : List Value} {w : World} (h : w.ownsRow base 78 4 v n xs) (h1 : ∀ u ∈ xs, u.oneCell' = true) (hn : n ≤ 1000000) :
    Calls Tryz.prog 95 #[v] w fun e w' => ∃ v', e = .returned v' ∧ w'.ownsRow w.heap.size 78 4 v' n xs ∧ Below w.heap.size w w' := by
  have q22 : ∀ (w : World) (a : Option Addr) (n c n' c' : Nat), (binOp .eql 74 (.slice a n c) (.slice none n' c')).run Tryz.prog w = .ok (.bool a.isNone) w := fun w a n c n' c' => Lib.run_eql_slice_nil w _ _ a n c n' c' Tryz.underlying74
  obtain ⟨i0, hi, hz0, hz1, hz2⟩ := info_parts Tryz.infoClonePend
  rcases Joins.ownsRow_forms h with ⟨rfl, hz⟩ | ⟨g, cap, rfl⟩
  · subst hz
    have hx : xs = [] := by have := h.1; simpa using this
    subst hx
    clear h h1
    go_enter Tryz.func95, Tryz.ntmps95
    go_wp2_with fail
    go_ret
    exact ⟨_, rfl, World.ownsRow_nil _ _ _ _, Below.refl _ _⟩
  · have H := hid h
    have H1 := hid h1
    clear h h1
    go_enter Tryz.func95, Tryz.ntmps95
    go_wp2_with (at_builtin; refine wpList_append_own _ rfl _ _ 74 rfl w.heap.size 78 i0 _ 4 32 Tryz.underlying74 hi hz0 hz1 hz2 rfl (by omega) _ _ _ rfl (World.ownsRow_made w #[] 0 (Nat.le_refl _) (Nat.zero_le _) (by simp)) ⟨g, 0, none⟩ n cap xs rfl ?qc1 ?qc2 ?qc3 ?qc4 ?qc5 ?qc6 ?_)
    case qc1 => exact H.out.1
    case qc2 =>
      intro j u hj
      have hlt := (List.getElem?_eq_some_iff.1 hj).1
      rw [Addr.add_lit, Nat.zero_add]
      refine Lib.cell?_alloc_some _ ?_
      rw [H.out.cellAt j (by rw [← H.out.1]; exact hlt)]; exact hj
    case qc3 => exact H1.out
    case qc4 => unfold maxLen; omega
    case qc5 => omega
    case qc6 => simp
    intro v' w1 hown hgrow hnil
    have HO := hid hown
    have HG := hid hgrow
    clear hown hgrow hnil
    go_wp2_with fail
    go_ret
    refine ⟨v', rfl, HO.out, ?_⟩
    exact ((Below.refl _ w).alloc (Nat.le_refl _) _).grown HG.out (by simp) (by intro k hk; simp [Value.ownBlock] at hk; omega)
theorem pend_one (l : List PPend) : ∀ u ∈ pendCells l, u.oneCell' = true := by
  intro u hu
  unfold pendCells at hu
  obtain ⟨x, _, hx⟩ := List.mem_flatMap.1 hu
  simp only [PPend.cells, List.mem_cons, List.not_mem_nil, or_false] at hx
  rcases hx with rfl | rfl | rfl | rfl <;> rfl

set_option maxHeartbeats 1000000 in
theorem indexPend_nil (gf : Nat) (lb : Array Value) (w : World) :
    Calls Tryz.prog 144 #[.slice none 0 0, .func (.func gf) #[] lb] w fun e w' => e = .returned (.int .i64 (-1)) ∧ w = w' := by
  go_enter Tryz.func144, Tryz.ntmps144
  go_wp2_with fail
  go_loopw [8] (fun c wr => c = .int .i64 0 ∧ wr = w) (fun _ _ => 0)
  case atStart => exact ⟨rfl, rfl⟩
  case round =>
    obtain ⟨rfl, rfl⟩ := hrel
    go_wp2_with fail
    go_ret
    exact ⟨rfl, rfl⟩

set_option maxHeartbeats 1000000 in
theorem deletePend_nil (gf : Nat) (lb : Array Value) (w : World) :
    Calls Tryz.prog 142 #[.slice none 0 0, .func (.func gf) #[] lb] w fun e w' => e = .returned (.slice none 0 0) ∧ w = w' := by
  go_enter Tryz.func142, Tryz.ntmps142
  go_wp2_with fail
  refine (indexPend_nil gf lb w).mono ?_
  rintro e w' ⟨rfl, rfl⟩
  go_wp2_with fail
  go_ret
  exact ⟨rfl, rfl⟩

theorem fr_none {S : Nat → Prop} {w W : World} (h : Fr S w W) (hS : ∀ k, k < w.heap.size → ¬ S k) : Below w.heap.size w W := h.to_below (Nat.le_refl _) hS

set_option maxHeartbeats 1000000 in
/-- of$1: what does not hold. -/
theorem of1_any {b gf : Nat} {lb : Array Value} {q : PPend → Bool} {w0 : World} {S : Nat → Prop} (hb : Blk w0 b #[.func (.func gf) #[] lb] 164) (hS : ¬ S b) (eg : ∀ args w, (callFunc gf args).run Tryz.prog w = .ok (.enter gf args) w) (hp : PredFr S w0 gf lb q) :
    PredFr S w0 143 #[.pointer (some ⟨b, 0, none⟩)] (fun x => !q x) := by
  intro W x hW
  have hbx := hb.fr hW hS
  have c0 := hbx.cell (i := 0) (v := .func (.func gf) #[] lb) rfl
  have hlt := hbx.lt
  have hne : b ≠ W.heap.size := by omega
  have hcall := hp (W.alloc (.cells #[.int .i64 x.pid, .int .i64 x.epoch, .int .i64 x.part, .int .i64 x.off] 78)) x (hW.alloc _)
  have hba : Below W.heap.size W (W.alloc (.cells #[.int .i64 x.pid, .int .i64 x.epoch, .int .i64 x.part, .int .i64 x.off] 78)) := bel_alloc (Below.refl _ _) _
  have HBA := hid hba
  unfold PPend.val at hcall ⊢
  clear hp hb hW hbx hba
  show Calls Tryz.prog 143 #[.agg #[.int .i64 x.pid, .int .i64 x.epoch, .int .i64 x.part, .int .i64 x.off], .pointer (some ⟨b, 0, none⟩)] W _
  go_enter Tryz.func143, Tryz.ntmps143
  go_wp2_with fail
  refine hcall.mono ?_
  rintro e w' ⟨rfl, hb'⟩
  go_wp2_with fail
  go_ret
  exact ⟨rfl, bel_next HBA.out hb'⟩

set_option maxHeartbeats 2000000 in
theorem of_any {o gf base : Nat} {lb : Array Value} {q : PPend → Bool} {w : World} {pv : Value} {l : List PPend} (hc : w.cell? ⟨o, 4, none⟩ = some pv) (hr : w.ownsRow base 78 4 pv l.length (pendCells l)) (hl : l.length ≤ 1000000)
    (eg : ∀ args w, (callFunc gf args).run Tryz.prog w = .ok (.enter gf args) w) (hp : PredFr (fun _ => False) w gf lb q) :
    Calls Tryz.prog 88 #[.pointer (some ⟨o, 0, none⟩), .func (.func gf) #[] lb] w fun e w' => ∃ v', e = .returned v' ∧ w'.ownsRow w.heap.size 78 4 v' (l.filter q).length (pendCells (l.filter q)) ∧ Below w.heap.size w w' := by
  have ho : o < w.heap.size := World.block_lt_of_cell? w ⟨o, 4, none⟩ hc
  have hne : o ≠ w.heap.size := by omega
  have hblk := Blk.new w #[.func (.func gf) #[] lb] 164
  have hba : Below w.heap.size w (w.alloc (.cells #[.func (.func gf) #[] lb] 164)) := bel_alloc (Below.refl _ _) _
  have hra := own_bel hr hba
  have hca : (w.alloc (.cells #[.func (.func gf) #[] lb] 164)).cell? ⟨o, 4, none⟩ = some pv := (hba.cell (p := ⟨o, 4, none⟩) ho).trans hc
  have hsz : (w.alloc (.cells #[.func (.func gf) #[] lb] 164)).heap.size = w.heap.size + 1 := by simp
  have HP := hid hp
  clear hp hr hc
  go_enter Tryz.func88, Tryz.ntmps88
  go_wp2_with fail
  have egc : ∀ args w, (callFunc 143 args).run Tryz.prog w = .ok (.enter 143 args) w := enters_of Tryz.func143 (by kernel_rfl) rfl
  have hfil : (l.filter fun x => !!q x) = l.filter q := by simp
  refine (clonePend_any hra (pend_one l) hl).mono ?_
  rintro e w1 ⟨v1, rfl, hown, hb1⟩
  have HBA := hid (bel_next hba hb1)
  have HFIL := hid hfil
  rcases Joins.ownsRow_forms hown with ⟨rfl, hz⟩ | ⟨g, cap, rfl⟩
  · have hln : l = [] := List.length_eq_zero_iff.1 hz
    have HLN := hid hln
    clear hblk hba hra hca hsz hown hb1 hfil hz hln egc
    go_wp2_with fail
    refine (deletePend_nil _ _ w1).mono ?_
    rintro e w2 ⟨rfl, rfl⟩
    go_wp2_with fail
    go_ret
    rw [HLN.out]
    exact ⟨_, rfl, World.ownsRow_nil _ _ _ _, HBA.out⟩
  · have hg := hown.lt g rfl
    have hpred : PredFr (fun k => k = g) w1 143 #[.pointer (some ⟨w.heap.size, 0, none⟩)] (fun x => !q x) := by
      refine of1_any (hblk.below' hb1) (by omega) eg (fun W x hW => HP.out W x ?_)
      refine (Fr.of_below HBA.out).trans (hW.mono ?_) |>.mono (S := fun k => k = g) ?_
      · exact fun _ _ h => h
      · intro k hk h; omega
    have hdel := deletePend_any w.heap.size g cap l _ _ _ w1 (by omega) (own_base hown (by omega)) egc hpred
    have HDEL := hid hdel
    have hgw : w.heap.size ≤ g := by omega
    clear hblk hba hra hca hsz hown hb1 hfil hg egc hpred hdel
    go_wp2_with fail
    refine HDEL.out.mono ?_
    rintro e w2 ⟨rfl, hrow, hf⟩
    rw [HFIL.out] at hrow ⊢
    have hb2 : Below w.heap.size w w2 := HBA.out.trans (hf.to_below HBA.out.size (fun k hk h => by omega))
    have HR := hid hrow
    have HB2 := hid hb2
    clear hrow hf hb2
    go_wp2_with fail
    go_ret
    exact ⟨_, rfl, HR.out, HB2.out⟩
end Go.Proofs.YtjodkcjlipecdaaGreatDoor

namespace Go.Proofs.YtjodkcjlipecdaaGreatDoor
open Go.RowKit

set_option maxHeartbeats 1000000 in
theorem pend1_any {b : Nat} {p : Int} {w0 : World} {S : Nat → Prop} (hb : Blk w0 b #[.int .i64 p] 3) (hS : ¬ S b) :
    PredFr S w0 89 #[.pointer (some ⟨b, 0, none⟩)] (fun x => x.part == p) := by
  intro W x hW
  have hbx := hb.fr hW hS
  have c0 := hbx.cell (i := 0) (v := .int .i64 p) rfl
  have hlt := hbx.lt
  have hne : b ≠ W.heap.size := by omega
  have hba : Below W.heap.size W (W.alloc (.cells #[.int .i64 x.pid, .int .i64 x.epoch, .int .i64 x.part, .int .i64 x.off] 78)) := bel_alloc (Below.refl _ _) _
  have HBA := hid hba
  unfold PPend.val
  clear hb hW hbx hba
  show Calls Tryz.prog 89 #[.agg #[.int .i64 x.pid, .int .i64 x.epoch, .int .i64 x.part, .int .i64 x.off], .pointer (some ⟨b, 0, none⟩)] W _
  go_enter Tryz.func89, Tryz.ntmps89
  go_wp2_with fail
  go_ret
  exact ⟨rfl, HBA.out⟩

set_option maxHeartbeats 1000000 in
theorem fetch1_any {b : Nat} {p : Int} {w0 : World} {S : Nat → Prop} (hb : Blk w0 b #[.int .i64 p] 3) (hS : ¬ S b) :
    PredFr S w0 91 #[.pointer (some ⟨b, 0, none⟩)] (fun x => x.part == p) := by
  intro W x hW
  have hbx := hb.fr hW hS
  have c0 := hbx.cell (i := 0) (v := .int .i64 p) rfl
  have hlt := hbx.lt
  have hne : b ≠ W.heap.size := by omega
  have hba : Below W.heap.size W (W.alloc (.cells #[.int .i64 x.pid, .int .i64 x.epoch, .int .i64 x.part, .int .i64 x.off] 78)) := bel_alloc (Below.refl _ _) _
  have HBA := hid hba
  unfold PPend.val
  clear hb hW hbx hba
  show Calls Tryz.prog 91 #[.agg #[.int .i64 x.pid, .int .i64 x.epoch, .int .i64 x.part, .int .i64 x.off], .pointer (some ⟨b, 0, none⟩)] W _
  go_enter Tryz.func91, Tryz.ntmps91
  go_wp2_with fail
  go_ret
  exact ⟨rfl, HBA.out⟩

set_option maxHeartbeats 1000000 in
theorem done1_any {b : Nat} {p : Int} {w0 : World} {S : Nat → Prop} (hb : Blk w0 b #[.int .i64 p] 3) (hS : ¬ S b) :
    PredFr S w0 92 #[.pointer (some ⟨b, 0, none⟩)] (fun x => x.pid == p) := by
  intro W x hW
  have hbx := hb.fr hW hS
  have c0 := hbx.cell (i := 0) (v := .int .i64 p) rfl
  have hlt := hbx.lt
  have hne : b ≠ W.heap.size := by omega
  have hba : Below W.heap.size W (W.alloc (.cells #[.int .i64 x.pid, .int .i64 x.epoch, .int .i64 x.part, .int .i64 x.off] 78)) := bel_alloc (Below.refl _ _) _
  have HBA := hid hba
  unfold PPend.val
  clear hb hW hbx hba
  show Calls Tryz.prog 92 #[.agg #[.int .i64 x.pid, .int .i64 x.epoch, .int .i64 x.part, .int .i64 x.off], .pointer (some ⟨b, 0, none⟩)] W _
  go_enter Tryz.func92, Tryz.ntmps92
  go_wp2_with fail
  go_ret
  exact ⟨rfl, HBA.out⟩

set_option maxHeartbeats 1000000 in
theorem done2_any {b : Nat} {p : Int} {w0 : World} {S : Nat → Prop} (hb : Blk w0 b #[.int .i64 p] 3) (hS : ¬ S b) :
    PredFr S w0 94 #[.pointer (some ⟨b, 0, none⟩)] (fun x => decide (p < x.epoch)) := by
  intro W x hW
  have hbx := hb.fr hW hS
  have c0 := hbx.cell (i := 0) (v := .int .i64 p) rfl
  have hlt := hbx.lt
  have hne : b ≠ W.heap.size := by omega
  have hba : Below W.heap.size W (W.alloc (.cells #[.int .i64 x.pid, .int .i64 x.epoch, .int .i64 x.part, .int .i64 x.off] 78)) := bel_alloc (Below.refl _ _) _
  have HBA := hid hba
  unfold PPend.val
  clear hb hW hbx hba
  show Calls Tryz.prog 94 #[.agg #[.int .i64 x.pid, .int .i64 x.epoch, .int .i64 x.part, .int .i64 x.off], .pointer (some ⟨b, 0, none⟩)] W _
  go_enter Tryz.func94, Tryz.ntmps94
  go_wp2_with fail
  go_ret
  exact ⟨rfl, HBA.out⟩

set_option maxHeartbeats 1000000 in
theorem fold1_any {b : Nat} {a b2 c d : Int} {w0 : World} {S : Nat → Prop} (hb : Blk w0 b #[.int .i64 a, .int .i64 b2, .int .i64 c, .int .i64 d] 78) (hS : ¬ S b) :
    PredFr S w0 146 #[.pointer (some ⟨b, 0, none⟩)] (fun x => x.part == c) := by
  intro W x hW
  have hbx := hb.fr hW hS
  have c0 := hbx.cell (i := 2) (v := .int .i64 c) rfl
  have hlt := hbx.lt
  have hne : b ≠ W.heap.size := by omega
  have hba : Below W.heap.size W (W.alloc (.cells #[.int .i64 x.pid, .int .i64 x.epoch, .int .i64 x.part, .int .i64 x.off] 78)) := bel_alloc (Below.refl _ _) _
  have HBA := hid hba
  unfold PPend.val
  clear hb hW hbx hba
  show Calls Tryz.prog 146 #[.agg #[.int .i64 x.pid, .int .i64 x.epoch, .int .i64 x.part, .int .i64 x.off], .pointer (some ⟨b, 0, none⟩)] W _
  go_enter Tryz.func146, Tryz.ntmps146
  go_wp2_with fail
  go_ret
  exact ⟨rfl, HBA.out⟩

set_option maxHeartbeats 1000000 in
theorem fold2_any {b : Nat} {k a b2 c d : Int} {w0 : World} {S : Nat → Prop} (hb : Blk w0 b #[.int .i64 k, .int .i64 a, .int .i64 b2, .int .i64 c, .int .i64 d] 171) (hS : ¬ S b) :
    PredFr S w0 147 #[.pointer (some ⟨b, 0, none⟩)] (fun x => x.pid == a) := by
  intro W x hW
  have hbx := hb.fr hW hS
  have c0 := hbx.cell (i := 1) (v := .int .i64 a) rfl
  have hlt := hbx.lt
  have hne : b ≠ W.heap.size := by omega
  have hba : Below W.heap.size W (W.alloc (.cells #[.int .i64 x.pid, .int .i64 x.epoch, .int .i64 x.part, .int .i64 x.off] 78)) := bel_alloc (Below.refl _ _) _
  have HBA := hid hba
  unfold PPend.val
  clear hb hW hbx hba
  show Calls Tryz.prog 147 #[.agg #[.int .i64 x.pid, .int .i64 x.epoch, .int .i64 x.part, .int .i64 x.off], .pointer (some ⟨b, 0, none⟩)] W _
  go_enter Tryz.func147, Tryz.ntmps147
  go_wp2_with fail
  go_ret
  exact ⟨rfl, HBA.out⟩
end Go.Proofs.YtjodkcjlipecdaaGreatDoor
