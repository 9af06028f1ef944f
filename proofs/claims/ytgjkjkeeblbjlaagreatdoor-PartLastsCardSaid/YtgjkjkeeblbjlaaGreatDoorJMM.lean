/-
  What is fetched of a partition, some batches at a time: plain. No conditions.
  Rows of batches that were put, and how their transactions came to an end: plain. No conditions.
  What is fetched as committed, the stable offset, a batch that is put once more: plain. No conditions.
-/
import Derived.Test.YtgjkjkeeblbjlaaGreatDoorJDM
import Derived.Test.YtgjkjkeeblbjlaaGreatDoorJGM
import Derived.Test.YtgjkjkeeblbjlaaGreatDoorGGM
import Derived.Test.YtgjkjkeeblbjlaaGreatDoorJIM
import Derived.Test.YtgjkjkeeblbjlaaGreatDoorJFM
set_option maxRecDepth 100000
namespace Go.Proofs.YtgjkjkeeblbjlaaGreatDoor
open Go.RowKit

theorem tw_take {α : Type} (p : α → Bool) : ∀ (l : List α) (m : Nat), (l.take m).takeWhile p = (l.takeWhile p).take m
  | [], m => by simp
  | x :: l, 0 => by simp
  | x :: l, m + 1 => by
    rw [List.take_succ_cons, List.takeWhile_cons, List.takeWhile_cons]
    cases p x with
    | true => simp [tw_take p l m]
    | false => simp

theorem tw_drop {α : Type} (p : α → Bool) : ∀ (l : List α) (k : Nat), k ≤ (l.takeWhile p).length → (l.drop k).takeWhile p = (l.takeWhile p).drop k
  | l, 0, _ => by simp
  | [], k + 1, h => by simp at h
  | x :: l, k + 1, h => by
    rw [List.takeWhile_cons] at h ⊢
    cases hp : p x with
    | true =>
      rw [hp] at h
      simp only [if_true, List.length_cons, List.drop_succ_cons] at h ⊢
      exact tw_drop p l k (by omega)
    | false =>
      rw [hp] at h
      simp at h

theorem tw_pre {α : Type} (p : α → Bool) : ∀ (l : List α) (k : Nat), k ≤ (l.takeWhile p).length → (l.takeWhile p).take k = l.take k
  | l, 0, _ => by simp
  | [], k + 1, h => by simp
  | x :: l, k + 1, h => by
    rw [List.takeWhile_cons] at h ⊢
    cases hp : p x with
    | true =>
      rw [hp] at h
      simp only [if_true, List.length_cons, List.take_succ_cons] at h ⊢
      rw [tw_pre p l k (by omega)]
    | false =>
      rw [hp] at h
      simp at h

/-- Is an entry told, or kept back? -/
def seenE (st : Int) (c : Bool) (x : Ent) : Bool := !(c && decide (st ≤ x.base))
/-- All records of a batch. -/
def recsAt (base : Int) (l : List PRec) : List PGot := l.mapIdx fun i r => (⟨base + i, r⟩ : PGot)
/-- The records that are told of an entry. -/
def PPart.told (s : PPart) (c : Bool) (x : Ent) : List PGot := match batOf x.text with
  | none => []
  | some b => if c = true ∧ b.kind = 2 ∧ s.out b.pid x.base = true then [] else recsAt x.base b.l

theorem gotsOf_all {base off : Int} (h : off ≤ base) (l : List PRec) : gotsOf base off l = recsAt base l := by
  unfold gotsOf recsAt
  refine List.filter_eq_self.2 fun g hg => ?_
  obtain ⟨i, hi, rfl⟩ := List.mem_mapIdx.1 hg
  simp only [decide_eq_true_eq]
  omega

theorem gets_spec (s : PPart) (st off : Int) (c : Bool) : ∀ (l : List Ent) (out : List PGot) (nx : Int), off ≤ nx → Chain nx l →
    s.gets st off c l (out, nx) = (out ++ (l.takeWhile (seenE st c)).flatMap (s.told c), endOf nx (l.takeWhile (seenE st c)))
  | [], out, nx, _, _ => by simp [PPart.gets, endOf]
  | x :: l, out, nx, ho, hc => by
    obtain ⟨h1, h2, h3⟩ := hc
    have hn : 1 ≤ x.n := h2.2.2.1
    rw [PPart.gets]
    by_cases h : c = true ∧ st ≤ x.base
    · rw [if_pos h]
      have hs : seenE st c x = false := by unfold seenE; simp [h.1, h.2]
      rw [List.takeWhile_cons, hs]
      simp [endOf]
    · rw [if_neg h]
      have hs : seenE st c x = true := by
        unfold seenE
        cases c with
        | false => rfl
        | true => simp at h ⊢; omega
      rw [List.takeWhile_cons, hs, if_pos rfl, List.flatMap_cons, endOf_cons nx x _ h1]
      cases hb : batOf x.text with
      | none =>
        dsimp only
        rw [gets_spec s st off c l out (x.base + x.n) (by omega) (by rw [h1]; exact h3), h1]
        have : s.told c x = [] := by unfold PPart.told; rw [hb]
        rw [this, List.nil_append]
      | some b =>
        dsimp only
        by_cases hk : c = true ∧ b.kind = 2 ∧ s.out b.pid x.base = true
        · rw [if_pos hk, gets_spec s st off c l out (x.base + x.n) (by omega) (by rw [h1]; exact h3)]
          have : s.told c x = [] := by unfold PPart.told; rw [hb]; dsimp only; rw [if_pos hk]
          rw [this, List.nil_append, h1]
        · rw [if_neg hk, gets_spec s st off c l _ (x.base + x.n) (by omega) (by rw [h1]; exact h3)]
          have : s.told c x = recsAt x.base b.l := by unfold PPart.told; rw [hb]; dsimp only; rw [if_neg hk]
          rw [this, gotsOf_all (by omega), List.append_assoc, h1]

/-- The entries that are told. -/
def PPart.vis (s : PPart) (c : Bool) (A : ALog) : List Ent := A.all.takeWhile (seenE (s.stable A.toP) c)
def PPart.toldAll (s : PPart) (c : Bool) (A : ALog) : List PGot := (s.vis c A).flatMap (s.told c)

theorem chain_drop {b : Int} {l : List Ent} (h : Chain b l) (k : Nat) : Chain b (l.take k) ∧ Chain (endOf b (l.take k)) (l.drop k) := by
  have hs := List.take_append_drop k l
  rw [← hs] at h
  exact Chain.app.1 h

theorem pfetch_at {N : Int} {s : PPart} {A : ALog} {D : PDisk} (h : NGood paNotes N s A D) {most : Int} (hm : 1 ≤ most ∧ most ≤ 32) (c : Bool) (k : Nat) (hk : k ≤ (s.vis c A).length) :
    s.fetch A.toP D (endOf 0 ((s.vis c A).take k)) most c = ((((s.vis c A).drop k).take most.toNat).flatMap (s.told c), endOf 0 ((s.vis c A).take (k + most.toNat)), 0) := by
  obtain ⟨hc, hend⟩ := h.chain
  have hp : (s.vis c A).take k = A.all.take k := tw_pre _ _ _ hk
  have hd : (A.all.drop k).takeWhile (seenE (s.stable A.toP) c) = (s.vis c A).drop k := tw_drop _ _ _ hk
  obtain ⟨c1, c2⟩ := chain_drop hc k
  have hle := c1.le
  have hle2 := c2.le
  have hend2 : endOf (endOf 0 (A.all.take k)) (A.all.drop k) = A.next := by
    rw [← endOf_app, List.take_append_drop]; exact hend
  rw [hend2] at hle2
  have hf := h.inv.fetch h.wf h.off h.e (off := endOf 0 (A.all.take k)) hm (by rw [h.first]; exact hle) hle2
  rw [filter_drop hc k] at hf
  unfold PPart.fetch
  rw [hp, hf]
  dsimp only
  rw [if_neg (by decide)]
  have hc3 : Chain (endOf 0 (A.all.take k)) ((A.all.drop k).take most.toNat) := (chain_drop c2 _).1
  rw [gets_spec s _ _ c _ [] _ (Int.le_refl _) hc3, tw_take, hd, List.nil_append]
  refine Prod.ext rfl (Prod.ext ?_ rfl)
  dsimp only
  rw [← hp, ← endOf_app]
  congr 1
  exact (List.take_add).symm

theorem vis_len {N : Int} {s : PPart} {A : ALog} {D : PDisk} (_ : NGood paNotes N s A D) (c : Bool) : (s.vis c A).length ≤ A.all.length := by
  unfold PPart.vis
  exact (List.takeWhile_prefix _).length_le

theorem told_len (s : PPart) (c : Bool) (x : Ent) : (s.told c x).length ≤ 64 := by
  unfold PPart.told
  split
  · simp
  · rename_i b hb
    obtain ⟨_, _, _, hok⟩ := batOf_some hb
    have h1 := hok.1.2.2
    split
    · simp
    · unfold recsAt
      rw [List.length_mapIdx]
      exact h1

theorem flatMap_len8 {α β : Type} {f : α → List β} {k : Nat} (hf : ∀ x, (f x).length ≤ k) : ∀ (l : List α), (l.flatMap f).length ≤ k * l.length
  | [] => by simp
  | x :: l => by
    rw [List.flatMap_cons, List.length_append, List.length_cons]
    have h1 := hf x
    have h2 := flatMap_len8 hf l
    rw [Nat.mul_add]
    omega

theorem vis_mono {N : Int} {s : PPart} {A : ALog} {D : PDisk} (h : NGood paNotes N s A D) (c : Bool) (k : Nat) :
    (0 ≤ endOf 0 ((s.vis c A).take k) ∧ endOf 0 ((s.vis c A).take k) ≤ A.next) ∧ ∀ j, k < j → k < (s.vis c A).length → endOf 0 ((s.vis c A).take k) < endOf 0 ((s.vis c A).take j) := by
  obtain ⟨hc, hend⟩ := h.chain
  have hp : ∃ t, A.all = s.vis c A ++ t := ⟨_, (List.takeWhile_append_dropWhile (p := seenE (s.stable A.toP) c) (l := A.all)).symm⟩
  obtain ⟨t, ht⟩ := hp
  rw [ht] at hc hend
  obtain ⟨hc1, hc2⟩ := Chain.app.1 hc
  rw [endOf_app] at hend
  have hl := hc2.le
  rw [hend] at hl
  obtain ⟨c1, c2⟩ := chain_drop hc1 k
  have l1 := c1.le
  have l2 := c2.le
  rw [← endOf_app, List.take_append_drop] at l2
  refine ⟨⟨l1, by omega⟩, fun j hj hk => ?_⟩
  have e : (s.vis c A).take j = (s.vis c A).take k ++ ((s.vis c A).drop k).take (j - k) := by
    rw [← List.take_add]
    congr 1
    omega
  rw [e, endOf_app]
  refine (chain_drop c2 (j - k)).1.lt fun h9 => ?_
  have := congrArg List.length h9
  simp at this
  omega
end Go.Proofs.YtgjkjkeeblbjlaaGreatDoor

namespace Go.Proofs.YtgjkjkeeblbjlaaGreatDoor
open Go.RowKit

/-- A batch that was put. -/
structure PRow where
  base : Int
  fin : Int
  b : PBat

/-- An entry that is no mark. -/
def dataE (x : Ent) : Option (Int × PBat) := match batOf x.text with
  | none => none
  | some b => if b.kind ≤ 2 then some (x.base, b) else none

/-- Rows as a log has them. -/
structure RowInv (rows : List PRow) (s : PPart) (A : ALog) : Prop where
  data : A.all.filterMap dataE = rows.map fun r => (r.base, r.b)
  ok : ∀ r ∈ rows, r.b.ok ∧ (r.b.kind = 1 ∨ r.b.kind = 2) ∧ 0 ≤ r.base ∧ r.base + r.b.len ≤ A.next
  asc : rows.Pairwise fun a b => a.base < b.base
  fin : ∀ r ∈ rows, r.fin = 0 ∨ r.fin = 3 ∨ r.fin = 4
  opn : ∀ r ∈ rows, r.b.kind = 2 → (r.fin = 0 ↔ ∃ o ∈ s.opens, o.pid = r.b.pid ∧ o.first ≤ r.base)
  gone : ∀ r ∈ rows, r.b.kind = 2 → (r.fin = 4 ↔ s.out r.b.pid r.base = true)
  first : ∀ o ∈ s.opens, ∃ r ∈ rows, r.base = o.first ∧ r.b.kind = 2 ∧ r.b.pid = o.pid
  one : ∀ r ∈ rows, r.b.kind = 1 → r.fin = 0
  last : ∀ g ∈ s.gones, g.last < A.next

theorem dataE_lay {base n : Int} {b : PBat} (h : b.ok) : dataE ⟨base, n, b.lay⟩ = if b.kind ≤ 2 then some (base, b) else none := by
  unfold dataE
  rw [batOf_lay h]

theorem out_iff (s : PPart) (pid base : Int) : s.out pid base = true ↔ ∃ g ∈ s.gones, g.pid = pid ∧ g.first ≤ base ∧ base < g.last := by
  unfold PPart.out
  rw [List.any_eq_true]
  constructor
  · rintro ⟨g, hg, h⟩
    simp only [Bool.and_eq_true, decide_eq_true_eq] at h
    exact ⟨g, hg, h.1, h.2.1, h.2.2⟩
  · rintro ⟨g, hg, h1, h2, h3⟩
    exact ⟨g, hg, by simp [h1, h2, h3]⟩

theorem openOf_no8 {l : List POpen} {pid : Int} (h : openOf l pid = none) : ∀ o ∈ l, o.pid ≠ pid := fun x hx h9 => by
  have := List.find?_eq_none.1 h x hx
  simp [h9] at this
theorem openOf_so8 {l : List POpen} {pid : Int} {o : POpen} (h : openOf l pid = some o) : o ∈ l ∧ o.pid = pid := by
  have h1 := List.find?_some h
  exact ⟨List.mem_of_find?_eq_some h, by simpa using h1⟩

theorem mem_cut {l : List POpen} {pid : Int} (hs : l.Pairwise (fun a b => a.first < b.first ∧ a.pid ≠ b.pid)) (o : POpen) : o ∈ openCut l pid ↔ o ∈ l ∧ o.pid ≠ pid := by
  induction l with
  | nil => simp [openCut]
  | cons x l ih =>
    rw [List.pairwise_cons] at hs
    rw [openCut]
    split
    · rename_i h
      constructor
      · intro ho
        exact ⟨List.mem_cons_of_mem _ ho, fun h9 => (hs.1 o ho).2 (by rw [h, h9])⟩
      · rintro ⟨ho, hn⟩
        rcases List.mem_cons.1 ho with rfl | ho
        · exact absurd h hn
        · exact ho
    · rename_i h
      rw [List.mem_cons, List.mem_cons, ih hs.2]
      constructor
      · rintro (rfl | ⟨h1, h2⟩)
        · exact ⟨.inl rfl, h⟩
        · exact ⟨.inr h1, h2⟩
      · rintro ⟨rfl | h1, h2⟩
        · exact .inl rfl
        · exact .inr ⟨h1, h2⟩

theorem open_same {l : List POpen} (hs : l.Pairwise (fun a b => a.first < b.first ∧ a.pid ≠ b.pid)) {a b : POpen} (ha : a ∈ l) (hb : b ∈ l) (h : a.pid = b.pid) : a = b := by
  induction l with
  | nil => cases ha
  | cons x l ih =>
    rw [List.pairwise_cons] at hs
    rcases List.mem_cons.1 ha with rfl | ha2
    · rcases List.mem_cons.1 hb with rfl | hb2
      · rfl
      · exact absurd h (hs.1 b hb2).2
    · rcases List.mem_cons.1 hb with rfl | hb2
      · exact absurd h.symm (hs.1 a ha2).2
      · exact ih hs.2 ha2 hb2

/-- What a batch that is no mark makes of what is known. -/
theorem took_data {s : PPart} {b : PBat} {nx : Int} (hk : b.kind = 1 ∨ b.kind = 2) :
    (s.took b nx).gones = s.gones ∧ ((s.took b nx).opens = s.opens ∧ (b.kind = 2 → ∃ o ∈ s.opens, o.pid = b.pid) ∨ (b.kind = 2 ∧ (∀ o ∈ s.opens, o.pid ≠ b.pid) ∧ (s.took b nx).opens = s.opens ++ [⟨b.pid, nx⟩])) := by
  unfold PPart.took
  cases hq : openOf s.opens b.pid with
  | none =>
    dsimp only
    refine ⟨rfl, ?_⟩
    by_cases h : b.kind = 2
    · rw [if_pos h]
      exact .inr ⟨h, openOf_no8 hq, rfl⟩
    · rw [if_neg h]
      exact .inl ⟨rfl, fun h9 => absurd h9 h⟩
  | some o =>
    dsimp only
    rw [if_neg (by omega), if_neg (by omega)]
    obtain ⟨h1, h2⟩ := openOf_so8 hq
    exact ⟨rfl, .inl ⟨rfl, fun _ => ⟨o, h1, h2⟩⟩⟩

theorem RowInv.put {rows : List PRow} {s : PPart} {A A' : ALog} {N : Int} {D : PDisk} (h : RowInv rows s A) (hg : NGood paNotes N s A D) {b : PBat} (hb : b.ok) (hk : b.kind = 1 ∨ b.kind = 2) (hall : A'.all = A.all ++ [⟨A.next, b.len, b.lay⟩]) (hnx : A'.next = A.next + b.len) :
    RowInv (rows ++ [⟨A.next, 0, b⟩]) (s.took b A.next) A' := by
  have hl := b.len1
  have h0 := hg.next0
  have hi := paInv_of hg
  obtain ⟨t1, t2⟩ := took_data (s := s) (nx := A.next) hk
  have hout : ∀ p q, (s.took b A.next).out p q = s.out p q := fun p q => by unfold PPart.out; rw [t1]
  refine ⟨?_, ?_, ?_, ?_, ?_, ?_, ?_, ?_, ?_⟩
  · rw [hall, List.filterMap_append, h.data, List.map_append]
    congr 1
    rw [List.filterMap_cons, dataE_lay hb, if_pos (by omega)]
    rfl
  · intro r hr
    rcases List.mem_append.1 hr with hr | hr
    · obtain ⟨a1, a2, a3, a4⟩ := h.ok r hr
      exact ⟨a1, a2, a3, by omega⟩
    · rw [List.mem_singleton] at hr
      subst hr
      exact ⟨hb, hk, h0, by dsimp only; omega⟩
  · rw [List.pairwise_append]
    refine ⟨h.asc, List.pairwise_singleton _ _, fun a ha c hc => ?_⟩
    rw [List.mem_singleton] at hc
    subst hc
    have := (h.ok a ha).2.2.2
    have := a.b.len1
    dsimp only
    omega
  · intro r hr
    rcases List.mem_append.1 hr with hr | hr
    · exact h.fin r hr
    · rw [List.mem_singleton] at hr
      subst hr
      exact .inl rfl
  · intro r hr hk2
    rcases List.mem_append.1 hr with hr | hr
    · rw [h.opn r hr hk2]
      have a4 := (h.ok r hr).2.2.2
      have al := r.b.len1
      rcases t2 with ⟨e, _⟩ | ⟨_, _, e⟩
      · rw [e]
      · rw [e]
        constructor
        · rintro ⟨o, ho, h9⟩
          exact ⟨o, List.mem_append_left _ ho, h9⟩
        · rintro ⟨o, ho, h8, h9⟩
          rcases List.mem_append.1 ho with ho | ho
          · exact ⟨o, ho, h8, h9⟩
          · rw [List.mem_singleton] at ho
            subst ho
            dsimp only at h9
            omega
    · rw [List.mem_singleton] at hr
      subst hr
      refine ⟨fun _ => ?_, fun _ => rfl⟩
      dsimp only at hk2 ⊢
      rcases t2 with ⟨e, h9⟩ | ⟨_, _, e⟩
      · obtain ⟨o, ho, h8⟩ := h9 hk2
        have := (hi.oin o ho).2
        exact ⟨o, by rw [e]; exact ho, h8, by omega⟩
      · exact ⟨⟨b.pid, A.next⟩, by rw [e]; simp, rfl, Int.le_refl _⟩
  · intro r hr hk2
    rcases List.mem_append.1 hr with hr | hr
    · rw [hout]; exact h.gone r hr hk2
    · rw [List.mem_singleton] at hr
      subst hr
      rw [hout, out_iff]
      dsimp only
      constructor
      · intro h9; cases h9
      · rintro ⟨g, hg9, _, _, h9⟩
        have := h.last g hg9
        omega
  · intro o ho
    rcases t2 with ⟨e, _⟩ | ⟨hk2, _, e⟩
    · rw [e] at ho
      obtain ⟨r, hr, h9⟩ := h.first o ho
      exact ⟨r, List.mem_append_left _ hr, h9⟩
    · rw [e] at ho
      rcases List.mem_append.1 ho with ho | ho
      · obtain ⟨r, hr, h9⟩ := h.first o ho
        exact ⟨r, List.mem_append_left _ hr, h9⟩
      · rw [List.mem_singleton] at ho
        subst ho
        exact ⟨⟨A.next, 0, b⟩, by simp, rfl, hk2, rfl⟩
  · intro r hr hk1
    rcases List.mem_append.1 hr with hr | hr
    · exact h.one r hr hk1
    · rw [List.mem_singleton] at hr
      subst hr
      rfl
  · intro g hg9
    rw [t1] at hg9
    have := h.last g hg9
    omega

/-- Rows behind a mark. -/
def endRow (pid : Int) (yes : Bool) (r : PRow) : PRow := if r.b.kind = 2 ∧ r.b.pid = pid ∧ r.fin = 0 then { r with fin := if yes then 3 else 4 } else r

theorem endRow_b (pid : Int) (yes : Bool) (r : PRow) : (endRow pid yes r).b = r.b ∧ (endRow pid yes r).base = r.base := by
  unfold endRow
  split <;> exact ⟨rfl, rfl⟩

theorem mark_ok_lay {pid ep : Int} {yes : Bool} : (markOf pid ep yes).len = 1 ∧ (markOf pid ep yes).pid = pid ∧ (markOf pid ep yes).epoch = ep ∧ ((markOf pid ep yes).kind = if yes then 3 else 4) := by
  exact ⟨rfl, rfl, rfl, rfl⟩

theorem took_mark8 {s : PPart} {pid ep nx : Int} {yes : Bool} {o : POpen} (ho : openOf s.opens pid = some o) :
    (s.took (markOf pid ep yes) nx).opens = openCut s.opens pid ∧ (s.took (markOf pid ep yes) nx).gones = if yes then s.gones else s.gones ++ [⟨pid, o.first, nx⟩] := by
  have hp : (markOf pid ep yes).pid = pid := rfl
  unfold PPart.took
  rw [hp, ho]
  dsimp only
  cases yes with
  | true => exact ⟨rfl, rfl⟩
  | false => exact ⟨rfl, rfl⟩

theorem RowInv.mark {rows : List PRow} {s : PPart} {A A' : ALog} {N : Int} {D : PDisk} (h : RowInv rows s A) (hg : NGood paNotes N s A D) {pid ep : Int} {yes : Bool} {o : POpen} (ho : openOf s.opens pid = some o) (hb : (markOf pid ep yes).ok)
    (hall : A'.all = A.all ++ [⟨A.next, (markOf pid ep yes).len, (markOf pid ep yes).lay⟩]) (hnx : A'.next = A.next + (markOf pid ep yes).len) :
    RowInv (rows.map (endRow pid yes)) (s.took (markOf pid ep yes) A.next) A' := by
  have hi := paInv_of hg
  have hnx : A'.next = A.next + 1 := hnx
  obtain ⟨t1, t2⟩ := took_mark8 (ep := ep) (nx := A.next) (yes := yes) ho
  obtain ⟨o1, o2⟩ := openOf_so8 ho
  have hmem := mem_cut (pid := pid) hi.osort
  have hkind : ¬ (markOf pid ep yes).kind ≤ 2 := by unfold markOf; cases yes <;> simp
  have hout : ∀ p q, (s.took (markOf pid ep yes) A.next).out p q = true ↔ s.out p q = true ∨ (yes = false ∧ p = pid ∧ o.first ≤ q ∧ q < A.next) := by
    intro p q
    rw [out_iff, out_iff, t2]
    cases yes with
    | true =>
      rw [if_pos rfl]
      constructor
      · exact fun h9 => .inl h9
      · rintro (h9 | ⟨h9, _⟩)
        · exact h9
        · cases h9
    | false =>
      rw [if_neg (by decide)]
      constructor
      · rintro ⟨g, hg9, h9⟩
        rcases List.mem_append.1 hg9 with hg9 | hg9
        · exact .inl ⟨g, hg9, h9⟩
        · rw [List.mem_singleton] at hg9
          subst hg9
          exact .inr ⟨rfl, h9.1.symm, h9.2.1, h9.2.2⟩
      · rintro (⟨g, hg9, h9⟩ | ⟨_, h8, h9⟩)
        · exact ⟨g, List.mem_append_left _ hg9, h9⟩
        · exact ⟨⟨pid, o.first, A.next⟩, by simp, h8.symm, h9⟩
  refine ⟨?_, ?_, ?_, ?_, ?_, ?_, ?_, ?_, ?_⟩
  · rw [hall, List.filterMap_append, h.data, List.filterMap_cons, dataE_lay hb, if_neg hkind, List.map_map]
    simp only [List.filterMap_nil, List.append_nil]
    refine List.map_congr_left fun r _ => ?_
    obtain ⟨e1, e2⟩ := endRow_b pid yes r
    simp only [Function.comp_apply, e1, e2]
  · intro r hr
    obtain ⟨r0, hr0, rfl⟩ := List.mem_map.1 hr
    obtain ⟨e1, e2⟩ := endRow_b pid yes r0
    rw [e1, e2]
    obtain ⟨a1, a2, a3, a4⟩ := h.ok r0 hr0
    exact ⟨a1, a2, a3, by omega⟩
  · rw [List.pairwise_map]
    refine h.asc.imp fun {a b} hab => ?_
    rw [(endRow_b pid yes a).2, (endRow_b pid yes b).2]
    exact hab
  · intro r hr
    obtain ⟨r0, hr0, rfl⟩ := List.mem_map.1 hr
    unfold endRow
    split
    · cases yes with
      | true => exact .inr (.inl rfl)
      | false => exact .inr (.inr rfl)
    · exact h.fin r0 hr0
  · intro r hr hk2
    obtain ⟨r0, hr0, rfl⟩ := List.mem_map.1 hr
    obtain ⟨e1, e2⟩ := endRow_b pid yes r0
    rw [e1] at hk2
    rw [e1, e2]
    have h1 := h.opn r0 hr0 hk2
    rw [t1]
    by_cases hp : r0.b.pid = pid
    · have hno : ¬ ∃ o ∈ openCut s.opens pid, o.pid = r0.b.pid ∧ o.first ≤ r0.base := by
        rintro ⟨o', ho', h8, _⟩
        exact ((hmem o').1 ho').2 (h8.trans hp)
      refine ⟨fun h9 => ?_, fun h9 => absurd h9 hno⟩
      exfalso
      unfold endRow at h9
      split at h9
      · cases yes <;> cases h9
      · rename_i h8
        exact h8 ⟨hk2, hp, h9⟩
    · have e3 : endRow pid yes r0 = r0 := by
        unfold endRow
        rw [if_neg (fun h9 => hp h9.2.1)]
      rw [e3, h1]
      constructor
      · rintro ⟨o', ho', h8, h9⟩
        exact ⟨o', (hmem o').2 ⟨ho', by rw [h8]; exact hp⟩, h8, h9⟩
      · rintro ⟨o', ho', h8, h9⟩
        exact ⟨o', ((hmem o').1 ho').1, h8, h9⟩
  · intro r hr hk2
    obtain ⟨r0, hr0, rfl⟩ := List.mem_map.1 hr
    obtain ⟨e1, e2⟩ := endRow_b pid yes r0
    rw [e1] at hk2
    rw [e1, e2, hout]
    have h1 := h.opn r0 hr0 hk2
    have h2 := h.gone r0 hr0 hk2
    have h3 := h.fin r0 hr0
    have h4 := (h.ok r0 hr0).2.2.2
    have h5 := r0.b.len1
    rw [← h2]
    by_cases hp : r0.b.pid = pid
    · by_cases hf : r0.fin = 0
      · have e3 : (endRow pid yes r0).fin = if yes then 3 else 4 := by
          unfold endRow
          rw [if_pos ⟨hk2, hp, hf⟩]
        rw [e3]
        obtain ⟨o', ho', h8, h9⟩ := h1.1 hf
        obtain rfl : o' = o := open_same hi.osort ho' o1 (by rw [h8, o2, hp])
        cases yes with
        | true => simp [hf]
        | false => simp [hf, hp]; omega
      · have e3 : endRow pid yes r0 = r0 := by
          unfold endRow
          rw [if_neg (fun h9 => hf h9.2.2)]
        rw [e3]
        have hlt : ¬ o.first ≤ r0.base := fun h9 => hf (h1.2 ⟨o, o1, by rw [o2, hp], h9⟩)
        exact ⟨fun h9 => .inl h9, fun h9 => h9.elim id (fun h9 => absurd h9.2.2.1 hlt)⟩
    · have e3 : endRow pid yes r0 = r0 := by
        unfold endRow
        rw [if_neg (fun h9 => hp h9.2.1)]
      rw [e3]
      exact ⟨fun h9 => .inl h9, fun h9 => h9.elim id (fun h9 => absurd h9.2.1 hp)⟩
  · intro o' ho'
    rw [t1] at ho'
    obtain ⟨r, hr, h9⟩ := h.first o' ((hmem o').1 ho').1
    refine ⟨endRow pid yes r, List.mem_map_of_mem hr, ?_⟩
    rw [(endRow_b pid yes r).1, (endRow_b pid yes r).2]
    exact h9
  · intro r hr hk1
    obtain ⟨r0, hr0, rfl⟩ := List.mem_map.1 hr
    rw [(endRow_b pid yes r0).1] at hk1
    unfold endRow
    rw [if_neg (by omega)]
    exact h.one r0 hr0 hk1
  · intro g hg9
    rw [t2] at hg9
    cases yes with
    | true =>
      rw [if_pos rfl] at hg9
      have := h.last g hg9
      omega
    | false =>
      rw [if_neg (by decide)] at hg9
      rcases List.mem_append.1 hg9 with hg9 | hg9
      · have := h.last g hg9
        omega
      · rw [List.mem_singleton] at hg9
        subst hg9
        dsimp only
        omega

theorem rowInv_new : RowInv [] sP aP := by
  refine ⟨rfl, ?_, List.Pairwise.nil, ?_, ?_, ?_, ?_, ?_, ?_⟩
  · intro r hr; cases hr
  · intro r hr; cases hr
  · intro r hr; cases hr
  · intro r hr; cases hr
  · intro o ho; cases ho
  · intro r hr; cases hr
  · intro g hg; cases hg
end Go.Proofs.YtgjkjkeeblbjlaaGreatDoor

namespace Go.Proofs.YtgjkjkeeblbjlaaGreatDoor
open Go.RowKit

/-- The stable offset, by rows. -/
def stableR : List PRow → Int → Int
  | [], nx => nx
  | r :: l, nx => if r.b.kind = 2 ∧ r.fin = 0 then r.base else stableR l nx

theorem stableR_none {nx : Int} : ∀ {l : List PRow}, (∀ r ∈ l, ¬ (r.b.kind = 2 ∧ r.fin = 0)) → stableR l nx = nx
  | [], _ => rfl
  | r :: l, h => by
    rw [stableR, if_neg (h r (by simp))]
    exact stableR_none (fun x hx => h x (List.mem_cons_of_mem _ hx))

theorem stableR_at {nx : Int} {r : PRow} : ∀ {l : List PRow}, l.Pairwise (fun a b => a.base < b.base) → r ∈ l → (r.b.kind = 2 ∧ r.fin = 0) → (∀ x ∈ l, (x.b.kind = 2 ∧ x.fin = 0) → r.base ≤ x.base) → stableR l nx = r.base
  | x :: l, hs, hr, hk, hm => by
    rw [List.pairwise_cons] at hs
    rw [stableR]
    split
    · rename_i h
      have h1 := hm x (by simp) h
      rcases List.mem_cons.1 hr with rfl | hr
      · rfl
      · have := hs.1 r hr
        omega
    · rename_i h
      rcases List.mem_cons.1 hr with rfl | hr
      · exact absurd hk h
      · exact stableR_at hs.2 hr hk (fun y hy => hm y (List.mem_cons_of_mem _ hy))

theorem RowInv.stable {rows : List PRow} {s : PPart} {A : ALog} {N : Int} {D : PDisk} (h : RowInv rows s A) (hg : NGood paNotes N s A D) : stableR rows A.next = s.stable A.toP := by
  have hi := (paInv_of hg).osort
  unfold PPart.stable
  cases ho : s.opens with
  | nil =>
    dsimp only
    refine stableR_none fun r hr h9 => ?_
    obtain ⟨o, h8, _⟩ := (h.opn r hr h9.1).1 h9.2
    rw [ho] at h8
    cases h8
  | cons o t =>
    dsimp only
    rw [ho, List.pairwise_cons] at hi
    have hom : o ∈ s.opens := by rw [ho]; simp
    obtain ⟨r, hr, h1, h2, h3⟩ := h.first o hom
    have hf : r.fin = 0 := (h.opn r hr h2).2 ⟨o, hom, h3.symm, by omega⟩
    rw [← h1]
    refine stableR_at h.asc hr ⟨h2, hf⟩ (fun x hx h9 => ?_)
    obtain ⟨o', h8, _, h7⟩ := (h.opn x hx h9.1).1 h9.2
    rw [ho] at h8
    rcases List.mem_cons.1 h8 with rfl | h8
    · omega
    · have := (hi.1 o' h8).1
      omega

theorem tw_filter {st : Int} {c : Bool} : ∀ {l : List Ent} {b : Int}, Chain b l → l.takeWhile (seenE st c) = l.filter (seenE st c)
  | [], _, _ => rfl
  | x :: l, b, h => by
    obtain ⟨h1, h2, h3⟩ := h
    rw [List.takeWhile_cons, List.filter_cons]
    cases hs : seenE st c x with
    | true => rw [if_pos rfl, if_pos rfl, tw_filter h3]
    | false =>
      rw [if_neg (by decide), if_neg (by decide)]
      refine (List.filter_eq_nil_iff.2 fun y hy => ?_).symm
      have h4 := (h3.mem_le hy).1
      have h5 : 1 ≤ x.n := h2.2.2.1
      unfold seenE at hs ⊢
      cases c with
      | false => cases hs
      | true => simp at hs ⊢; omega

/-- What is told of an entry that is no mark. -/
def goodE (s : PPart) (st : Int) (c : Bool) (p : Int × PBat) : Bool := (!(c && decide (st ≤ p.1))) && !(c && (decide (p.2.kind = 2) && s.out p.2.pid p.1))

theorem told_data (s : PPart) (st : Int) (c : Bool) : ∀ (l : List Ent), (∀ x ∈ l, ∃ b, batOf x.text = some b) →
    (l.filter (seenE st c)).flatMap (s.told c) = ((l.filterMap dataE).filter (goodE s st c)).flatMap fun p => recsAt p.1 p.2.l
  | [], _ => rfl
  | x :: l, h => by
    have ih := told_data s st c l (fun y hy => h y (List.mem_cons_of_mem _ hy))
    obtain ⟨b, hb⟩ := h x (by simp)
    obtain ⟨_, _, _, hok⟩ := batOf_some hb
    rw [List.filter_cons, List.filterMap_cons]
    have e1 : s.told c x = if c = true ∧ b.kind = 2 ∧ s.out b.pid x.base = true then [] else recsAt x.base b.l := by unfold PPart.told; rw [hb]
    have e2 : dataE x = if b.kind ≤ 2 then some (x.base, b) else none := by unfold dataE; rw [hb]
    rw [e2]
    by_cases hk : b.kind ≤ 2
    · rw [if_pos hk]
      dsimp only
      rw [List.filter_cons]
      cases hs : seenE st c x with
      | false =>
        have hg : goodE s st c (x.base, b) = false := by
          unfold seenE at hs
          unfold goodE
          dsimp only
          rw [hs, Bool.false_and]
        rw [hg, if_neg (by decide), if_neg (by decide)]
        exact ih
      | true =>
        rw [if_pos rfl, List.flatMap_cons, e1]
        by_cases hq : c = true ∧ b.kind = 2 ∧ s.out b.pid x.base = true
        · have hg : goodE s st c (x.base, b) = false := by
            unfold goodE
            simp [hq.1, hq.2.1, hq.2.2]
          rw [if_pos hq, hg, if_neg (by decide), List.nil_append]
          exact ih
        · have hg : goodE s st c (x.base, b) = true := by
            unfold seenE at hs
            unfold goodE
            dsimp only
            rw [hs, Bool.true_and]
            cases c with
            | false => rfl
            | true =>
              simp only [Bool.true_and]
              cases ho : s.out b.pid x.base with
              | false => simp
              | true => simp [ho] at hq; simp [hq]
          rw [if_neg hq, hg, if_pos rfl, List.flatMap_cons, ih]
    · rw [if_neg hk]
      dsimp only
      have hl : b.l = [] := by
        rcases hok.2.2 with ⟨h1, _⟩ | ⟨h1, _⟩ | ⟨_, h1, _⟩
        · omega
        · omega
        · exact h1
      have e3 : s.told c x = [] := by
        rw [e1, hl]
        split <;> rfl
      split
      · rw [List.flatMap_cons, e3, List.nil_append]; exact ih
      · exact ih

def allP (rows : List PRow) : List PGot := rows.flatMap fun r => recsAt r.base r.b.l
def wantP (rows : List PRow) (st : Int) : List PGot := (rows.filter fun r => decide (r.base < st) && decide (r.fin ≠ 4)).flatMap fun r => recsAt r.base r.b.l

theorem RowInv.told {rows : List PRow} {s : PPart} {A : ALog} {N : Int} {D : PDisk} (h : RowInv rows s A) (hg : NGood paNotes N s A D) : s.toldAll true A = wantP rows (s.stable A.toP) ∧ s.toldAll false A = allP rows := by
  obtain ⟨hc, _⟩ := hg.chain
  have hb : ∀ x ∈ A.all, ∃ b, batOf x.text = some b := fun x hx => by
    obtain ⟨b, hb, _⟩ := pa_bat hg hx
    exact ⟨b, hb⟩
  unfold PPart.toldAll PPart.vis
  rw [tw_filter hc, tw_filter hc, told_data s _ _ _ hb, told_data s _ _ _ hb, h.data, List.filter_map, List.filter_map, List.flatMap_map, List.flatMap_map]
  refine ⟨?_, ?_⟩
  · unfold wantP
    congr 1
    refine List.filter_congr fun r hr => ?_
    unfold goodE
    simp only [Function.comp_apply, Bool.true_and]
    have e1 : (!decide (s.stable A.toP ≤ r.base)) = decide (r.base < s.stable A.toP) := by
      by_cases h9 : r.base < s.stable A.toP
      · rw [decide_eq_true h9, decide_eq_false (by omega)]; rfl
      · rw [decide_eq_false h9, decide_eq_true (by omega)]; rfl
    rw [e1]
    congr 1
    rcases (h.ok r hr).2.1 with h1 | h1
    · rw [h.one r hr h1, h1]; rfl
    · rw [h1]
      have h2 := h.gone r hr h1
      cases ho : s.out r.b.pid r.base with
      | true =>
        rw [ho] at h2
        have h3 := h2.2 rfl
        rw [h3]; rfl
      | false =>
        rw [ho] at h2
        have h3 : r.fin ≠ 4 := fun h9 => by cases h2.1 h9
        rw [decide_eq_true h3]; rfl
  · unfold allP
    congr 1
    refine List.filter_eq_self.2 fun r _ => ?_
    rfl

/-- The stable offset by the next one. -/
def stN (s : PPart) (nx : Int) : Int := match s.opens with | [] => nx | o :: _ => o.first
theorem stable_st (s : PPart) (L : PLog) : s.stable L = stN s L.next := rfl

theorem PaInv.st {s : PPart} {nx : Int} {k : Nat} (h : PaInv s nx k) : stN s nx ≤ nx ∧ (stN s nx = nx ↔ s.opens = []) := by
  unfold stN
  cases ho : s.opens with
  | nil => simp
  | cons o t =>
    have := (h.oin o (by rw [ho]; simp)).2
    dsimp only
    refine ⟨by omega, ⟨fun h9 => by omega, fun h9 => by cases h9⟩⟩

theorem PaInv.st_took {s : PPart} {nx : Int} {k : Nat} (h : PaInv s nx k) {b : PBat} : stN s nx ≤ stN (s.took b nx) (nx + b.len) := by
  have hl := b.len1
  have hs := h.osort
  have h1 := h.st.1
  unfold PPart.took
  cases hq : openOf s.opens b.pid with
  | none =>
    unfold stN at h1 ⊢
    dsimp only
    cases ho : s.opens with
    | nil =>
      by_cases hk : b.kind = 2
      · rw [if_pos hk]
        exact Int.le_refl _
      · rw [if_neg hk]
        dsimp only
        omega
    | cons o t =>
      by_cases hk : b.kind = 2
      · rw [if_pos hk]
        exact Int.le_refl _
      · rw [if_neg hk]
        exact Int.le_refl _
  | some q =>
    unfold stN at h1 ⊢
    dsimp only
    cases ho : s.opens with
    | nil => rw [ho] at hq; cases hq
    | cons o t =>
      rw [ho] at hs h1
      rw [List.pairwise_cons] at hs
      dsimp only at h1 ⊢
      by_cases hk : b.kind = 3 ∨ b.kind = 4
      · rw [if_pos hk, openCut]
        by_cases hp : o.pid = b.pid
        · rw [if_pos hp]
          cases t with
          | nil => dsimp only; omega
          | cons o2 t2 =>
            have := (hs.1 o2 (by simp)).1
            dsimp only; omega
        · rw [if_neg hp]
          exact Int.le_refl _
      · rw [if_neg hk]
        exact Int.le_refl _

theorem prodOf_ins {t : PProd} : ∀ {l : List PProd}, (∀ x ∈ l, x.pid ≠ t.pid) → prodOf (insP l t) t.pid = some t
  | [], _ => by simp [insP, prodOf]
  | x :: l, h => by
    have hx := h x (by simp)
    have ih := prodOf_ins (fun y hy => h y (List.mem_cons_of_mem _ hy))
    unfold prodOf at ih ⊢
    rw [insP]
    split
    · rw [List.find?_cons_of_neg (by simpa using hx)]
      exact ih
    · rw [List.find?_cons_of_pos (by simp)]

theorem prodOf_set {t p : PProd} : ∀ {l : List PProd}, prodOf l t.pid = some p → prodOf (setP l t) t.pid = some t
  | [], h => by cases h
  | x :: l, h => by
    rw [setP]
    split
    · unfold prodOf
      rw [List.find?_cons_of_pos (by simp)]
    · rename_i hx
      unfold prodOf at h ⊢
      rw [List.find?_cons_of_neg (by simpa using hx)] at h ⊢
      exact prodOf_set h

/-- What is put once more stands where it stands. -/
theorem look_again {l : List PProd} {b : PBat} {base : Int} (h : (lookP l b).2.2 = 0) (_hd : (lookP l b).2.1 = false) (hp : b.pid ≠ 0) : lookP (noteP l b base) b = (base, true, 0) := by
  obtain ⟨hok, hk⟩ := lookP_ok h
  have hne : b.l ≠ [] := by
    rcases hok.2.2 with ⟨_, h1, _⟩ | ⟨_, h1, _⟩ | ⟨h1, _⟩
    · exact h1
    · exact h1
    · omega
  have hlen : 0 < (b.l.length : Int) := by
    have := List.length_pos_iff.2 hne
    omega
  have hpr : b.prod base = ⟨b.pid, b.epoch, b.seq, b.l.length, base⟩ := by unfold PBat.prod; rw [if_neg (by omega)]
  have hfind : prodOf (noteP l b base) b.pid = some (b.prod base) := by
    unfold noteP
    rw [if_neg hp]
    cases hq : prodOf l b.pid with
    | none =>
      dsimp only
      have h1 : (b.prod base).pid = b.pid := by rw [hpr]
      have h2 := prodOf_ins (t := b.prod base) (l := l) (fun x hx h9 => by
        have := List.find?_eq_none.1 hq x hx
        rw [h1] at h9
        simp [h9] at this)
      rw [h1] at h2
      exact h2
    | some p =>
      dsimp only
      rw [if_neg (by omega)]
      have h1 : (b.prod base).pid = b.pid := by rw [hpr]
      have h2 := prodOf_set (t := b.prod base) (l := l) (p := p) (by rw [h1]; exact hq)
      rw [h1] at h2
      exact h2
  unfold lookP
  rw [if_neg (by
    rintro (h9 | h9)
    · exact h9 hok
    · omega), if_neg hp, hfind, hpr, Option.getD_some]
  dsimp only
  have hlt : ¬ b.epoch < b.epoch := Int.lt_irrefl _
  simp only [if_neg hlt]
  rw [if_pos ⟨hlen, trivial, trivial⟩]
end Go.Proofs.YtgjkjkeeblbjlaaGreatDoor
