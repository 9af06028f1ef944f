/-
  A thing, its log, its disk: one call behind another; a thing that is made while its Open goes on; a log's notes, one by one. No conditions.
  slices.Delete of one row at a partition's open transactions: the walk. Conditions: a row of the call's own.
  part: took: the walk. Conditions: rows that are not too many.
-/
import Derived.Test.YtgjkjkeeblbjlaaGreatDoorHFM
import Derived.Test.YtgjkjkeeblbjlaaGreatDoorHEM
import Derived.Test.YtgjkjkeeblbjlaaGreatDoorJDM
import Derived.Test.YtgjkjkeeblbjlaaGreatDoorJBM
import Derived.Shelf.SlLaysN
import Derived.Shelf.RegionOpenPlain
import Derived.Deep.RegionLaw
import Derived.Test.YtgjkjkeeblbjlaaGreatDoorJCM
import Derived.Test.YtgjkjkeeblbjlaaGreatDoorHJM
import Derived.Deep.AppendLies
set_option maxRecDepth 100000
namespace Go.Proofs.YtgjkjkeeblbjlaaGreatDoor
open Go.RowKit

theorem row_blk7 {w : World} {base : Nat} {e : TypeId} {size : Nat} {v : Value} {n : Nat} {xs : List Value} (h : w.ownsRow base e size v n xs) {k : Nat} (hk : v.ownBlock = some k) : ∃ c, Blk w k c e := by
  rcases h.2 with ⟨rfl, _⟩ | ⟨g, cap, cur, rfl, _, hh, _⟩
  · cases hk
  · simp only [Value.ownBlock, Option.some.injEq] at hk
    subst hk
    exact ⟨cur, hh⟩

section
variable {ω : Type} {X : Thing ω}

/-- What a call leaves, with what is none of theirs. -/
theorem TrioTo.split {w w2 : World} {l d : Nat} {S SL SD : Nat → Prop} {O2 : ω} {L2 : PLog} {D2 : PDisk} (hto : TrioTo X w w2 l d S SL SD O2 L2 D2) :
    ∃ S2 SL2 SD2, (Trio X w2 l d S2 SL2 SD2 O2 L2 D2 ∧ Fr (fun k => S k ∨ SL k ∨ SD k) w w2 ∧ (∀ k, S2 k → S k ∨ w.heap.size ≤ k) ∧ (∀ k, SL2 k → SL k ∨ w.heap.size ≤ k) ∧ (∀ k, SD2 k → SD k ∨ w.heap.size ≤ k)) ∧
      ∀ g, Aloof g w S SL SD → Aloof g w2 S2 SL2 SD2 ∧ w2.heap[g]? = w.heap[g]? := by
  obtain ⟨S2, SL2, SD2, a, f, s, t, u⟩ := hto
  refine ⟨S2, SL2, SD2, ⟨a, f, s, t, u⟩, fun g ha => ⟨⟨by have := f.size; have := ha.lt; omega, fun h9 => ?_, fun h9 => ?_, fun h9 => ?_⟩, f.block g ha.lt ?_⟩⟩
  · have hlt := ha.lt
    rcases s g h9 with h9 | h9
    · exact ha.s h9
    · omega
  · have hlt := ha.lt
    rcases t g h9 with h9 | h9
    · exact ha.sl h9
    · omega
  · have hlt := ha.lt
    rcases u g h9 with h9 | h9
    · exact ha.sd h9
    · omega
  · rintro (h9 | h9 | h9)
    · exact ha.s h9
    · exact ha.sl h9
    · exact ha.sd h9
end

/-- One call behind another, with what is theirs behind them. -/
structure TStep {ω : Type} (X : Thing ω) (w w' : World) (l d : Nat) (S SL SD S' SL' SD' : Nat → Prop) (O' : ω) (L' : PLog) (D' : PDisk) : Prop where
  trio : Trio X w' l d S' SL' SD' O' L' D'
  fr : Fr (fun k => S k ∨ SL k ∨ SD k) w w'
  s : ∀ k, S' k → S k ∨ w.heap.size ≤ k
  sl : ∀ k, SL' k → SL k ∨ w.heap.size ≤ k
  sd : ∀ k, SD' k → SD k ∨ w.heap.size ≤ k

section
variable {ω : Type} {X : Thing ω} {w w1 w2 : World} {l d : Nat} {S SL SD S1 SL1 SD1 S2 SL2 SD2 : Nat → Prop} {O1 O2 : ω} {L1 L2 : PLog} {D1 D2 : PDisk}

theorem TStep.of (h : Trio X w1 l d S1 SL1 SD1 O1 L1 D1 ∧ Fr (fun k => S k ∨ SL k ∨ SD k) w w1 ∧ (∀ k, S1 k → S k ∨ w.heap.size ≤ k) ∧ (∀ k, SL1 k → SL k ∨ w.heap.size ≤ k) ∧ (∀ k, SD1 k → SD k ∨ w.heap.size ≤ k)) : TStep X w w1 l d S SL SD S1 SL1 SD1 O1 L1 D1 := ⟨h.1, h.2.1, h.2.2.1, h.2.2.2.1, h.2.2.2.2⟩
theorem TStep.to (h : TStep X w w1 l d S SL SD S1 SL1 SD1 O1 L1 D1) : TrioTo X w w1 l d S SL SD O1 L1 D1 := ⟨S1, SL1, SD1, h.trio, h.fr, h.s, h.sl, h.sd⟩

theorem TStep.next (h : TStep X w w1 l d S SL SD S1 SL1 SD1 O1 L1 D1) (h2 : TStep X w1 w2 l d S1 SL1 SD1 S2 SL2 SD2 O2 L2 D2) : TStep X w w2 l d S SL SD S2 SL2 SD2 O2 L2 D2 := by
  have hsz := h.fr.size
  refine ⟨h2.trio, ⟨h2.fr.os.trans h.fr.os, h2.fr.tape.trans h.fr.tape, h2.fr.output.trans h.fr.output, Nat.le_trans h.fr.size h2.fr.size, fun k hk hn => ?_⟩, fun k hk => ?_, fun k hk => ?_, fun k hk => ?_⟩
  · refine (h2.fr.block k (by omega) (fun h9 => ?_)).trans (h.fr.block k hk hn)
    rcases h9 with h9 | h9 | h9
    · exact (h.s k h9).elim (fun h => hn (.inl h)) (by omega)
    · exact (h.sl k h9).elim (fun h => hn (.inr (.inl h))) (by omega)
    · exact (h.sd k h9).elim (fun h => hn (.inr (.inr h))) (by omega)
  · rcases h2.s k hk with h9 | h9
    · exact h.s k h9
    · exact .inr (by omega)
  · rcases h2.sl k hk with h9 | h9
    · exact h.sl k h9
    · exact .inr (by omega)
  · rcases h2.sd k hk with h9 | h9
    · exact h.sd k h9
    · exact .inr (by omega)

theorem TStep.after (hb : Below w.heap.size w w1) (h : TStep X w1 w2 l d S SL SD S2 SL2 SD2 O2 L2 D2) : TStep X w w2 l d S SL SD S2 SL2 SD2 O2 L2 D2 := by
  have hsz := hb.size
  exact ⟨h.trio, (Fr.of_below hb).trans h.fr, fun k hk => (h.s k hk).imp id (by omega), fun k hk => (h.sl k hk).imp id (by omega), fun k hk => (h.sd k hk).imp id (by omega)⟩

/-- The thing turns, and takes blocks that were made since. -/
theorem TStep.obj (h : TStep X w w1 l d S SL SD S1 SL1 SD1 O1 L1 D1) {S3 : Nat → Prop} {O3 : ω} (ho : X.held w2 S3 O3) (hf : Fr S1 w1 w2) (hs : ∀ k, S3 k → S1 k ∨ w.heap.size ≤ k) : TrioTo X w w2 l d S SL SD O3 L1 D1 := by
  have hsz := h.fr.size
  refine ⟨S3, SL1, SD1, ⟨ho, h.trio.log.fr hf (fun k hk h9 => Thing.notLog h.trio.obj h.trio.log h9 hk), h.trio.disk.fr hf (fun k hk h9 => Thing.notDisk h.trio.obj h.trio.disk h9 hk)⟩, ⟨hf.os.trans h.fr.os, hf.tape.trans h.fr.tape, hf.output.trans h.fr.output, Nat.le_trans h.fr.size hf.size, fun k hk hn => ?_⟩, fun k hk => ?_, h.sl, h.sd⟩
  · refine (hf.block k (by omega) (fun h9 => ?_)).trans (h.fr.block k hk hn)
    exact (h.s k h9).elim (fun h => hn (.inl h)) (by omega)
  · rcases hs k hk with h9 | h9
    · exact h.s k h9
    · exact .inr h9
end

theorem row_heap {w w2 : World} {base : Nat} {e : TypeId} {size : Nat} {v : Value} {n : Nat} {xs : List Value} (hr : w.ownsRow base e size v n xs) (hk : ∀ k, v.ownBlock = some k → w2.heap[k]? = w.heap[k]?) : w2.ownsRow base e size v n xs := by
  refine ⟨hr.1, ?_⟩
  rcases hr.2 with h2 | ⟨g, c, cur, rfl, hg, hh, r⟩
  · exact .inl h2
  · exact .inr ⟨g, c, cur, rfl, hg, (hk g rfl).trans hh, r⟩

theorem chain_ends {b : Int} {l : List Ent} (h : Chain b l) (k : Nat) : (b ≤ endOf b (l.take k)) ∧ ∀ j, k < j → k < l.length → endOf b (l.take k) < endOf b (l.take j) := by
  have hs := List.take_append_drop k l
  have hc2 := h
  rw [← hs] at hc2
  have h1 := (Chain.app.1 hc2).1.le
  refine ⟨h1, fun j hj hk => ?_⟩
  have e : l.take j = l.take k ++ (l.drop k).take (j - k) := by
    rw [List.take_drop]
    have h9 := List.take_append_drop k (l.take j)
    rw [List.take_take, Nat.min_eq_left (by omega)] at h9
    rw [show k + (j - k) = j by omega]
    exact h9.symm
  have hc3 : Chain b (l.take j) := by
    have hs' := List.take_append_drop j l
    have hc4 := h
    rw [← hs'] at hc4
    exact (Chain.app.1 hc4).1
  rw [e] at hc3 ⊢
  have h3 := (Chain.app.1 hc3).2.lt (by intro h9; have := congrArg List.length h9; simp at this; omega)
  rw [endOf_app]
  exact h3

theorem Notes.replay_at {σ : Type} (P : Notes σ) {all : List Ent} {s0 s : σ} (h : P.replay all s0 = some s) {i : Nat} {x : Ent} (hx : all[i]? = some x) {s1 : σ} (h1 : P.replay (all.take i) s0 = some s1) :
    ∃ s2, P.step x s1 = some s2 ∧ P.replay (all.take (i + 1)) s0 = some s2 := by
  have ht : all.take (i + 1) = all.take i ++ [x] := by rw [List.take_add_one, hx]; rfl
  have hs : all = all.take (i + 1) ++ all.drop (i + 1) := (List.take_append_drop _ _).symm
  rw [hs, P.replay_app] at h
  rw [ht, P.replay_app, h1] at h ⊢
  have e : (some s1).bind (P.replay [x]) = P.step x s1 := P.replay_one x s1
  rw [e] at h ⊢
  cases h2 : P.step x s1 with
  | none => rw [h2] at h; cases h
  | some s2 => exact ⟨s2, rfl, rfl⟩

/-- A thing made behind w1, while its Open goes on. -/
structure TMid {ω : Type} (X : Thing ω) (w1 : World) (S : Nat → Prop) (O1 : ω) (wr : World) : Prop where
  obj : X.held wr S O1
  s : ∀ k, S k → w1.heap.size ≤ k
  bel : Below w1.heap.size w1 wr

section
variable {ω : Type} {X : Thing ω}

theorem TMid.below {w1 : World} {S : Nat → Prop} {O1 : ω} {wr w2 : World} (h : TMid X w1 S O1 wr) (hb : Below wr.heap.size wr w2) : TMid X w1 S O1 w2 := ⟨Thing.below h.obj hb, h.s, bel_next h.bel hb⟩

theorem TMid.turn {w1 : World} {S S2 : Nat → Prop} {O1 O2 : ω} {wr w2 : World} (h : TMid X w1 S O1 wr) (ho : X.held w2 S2 O2) (hf : Fr S wr w2) (hs : ∀ k, S2 k → S k ∨ w1.heap.size ≤ k) : TMid X w1 S2 O2 w2 := by
  have hsz := h.bel.size
  refine ⟨ho, fun k hk => ?_, h.bel.trans (hf.to_below hsz (fun k hk h9 => by have := h.s k h9; omega))⟩
  rcases hs k hk with h9 | h9
  · exact h.s k h9
  · exact h9

theorem TMid.row {w1 : World} {S : Nat → Prop} {O1 : ω} {wr w2 : World} (h : TMid X w1 S O1 wr) (hf : Fr S wr w2) {base : Nat} {e : TypeId} {size : Nat} {v : Value} {n : Nat} {xs : List Value} (hr : wr.ownsRow base e size v n xs) (h1 : e ∉ X.types) : w2.ownsRow base e size v n xs := by
  refine row_fr hr hf (fun k hk h9 => ?_)
  obtain ⟨c, hc⟩ := row_blk7 hr hk
  obtain ⟨c2, T, h2, hT⟩ := X.kind h.obj h9
  have := (hc.inj h2).2
  subst this
  exact h1 hT

theorem TMid.blk {w1 : World} {S : Nat → Prop} {O1 : ω} {wr w2 : World} (h : TMid X w1 S O1 wr) (hf : Fr S wr w2) {b : Nat} {c : Array Value} {T : TypeId} (hb : Blk wr b c T) (h1 : T ∉ X.types) : Blk w2 b c T := by
  refine hb.fr hf (fun h9 => ?_)
  obtain ⟨c2, T2, h2, hT⟩ := X.kind h.obj h9
  have := (hb.inj h2).2
  subst this
  exact h1 hT
end

end Go.Proofs.YtgjkjkeeblbjlaaGreatDoor

namespace Go.Proofs.YtgjkjkeeblbjlaaGreatDoor
open Go.RowKit

theorem op_zero : ∃ z, (∀ w, (zeroValue 58).run Tryz.prog w = .ok z w) ∧ z.cells.size = 2 ∧ ∀ v ∈ z.cells.toList, v.oneCell' = true :=
  ⟨.agg #[.int .i64 0, .int .i64 0], fun _ => by kernel_rfl, by kernel_rfl, by decide +kernel⟩

theorem opCells_drop (l : List POpen) (i : Nat) : opCells (l.drop i) = (opCells l).drop (i * 2) := by
  by_cases hi : i ≤ l.length
  · have hs : opCells l = opCells (l.take i) ++ opCells (l.drop i) := by rw [← opCells_app, List.take_append_drop]
    have hlen : (opCells (l.take i)).length = i * 2 := by rw [opCells_len, List.length_take, Nat.min_eq_left hi]
    rw [hs, ← hlen, List.drop_left]
  · rw [List.drop_eq_nil_of_le (by omega : l.length ≤ i), List.drop_eq_nil_of_le (by rw [opCells_len]; omega)]
    rfl
theorem opCells_take (l : List POpen) (i : Nat) : opCells (l.take i) = (opCells l).take (i * 2) := by
  by_cases hi : i ≤ l.length
  · have hs : opCells l = opCells (l.take i) ++ opCells (l.drop i) := by rw [← opCells_app, List.take_append_drop]
    have hlen : (opCells (l.take i)).length = i * 2 := by rw [opCells_len, List.length_take, Nat.min_eq_left hi]
    rw [hs, ← hlen, List.take_left]
  · rw [List.take_of_length_le (by omega : l.length ≤ i), List.take_of_length_le (by rw [opCells_len]; omega)]

theorem op_erase (l : List POpen) (i : Nat) (hi : i < l.length) : (setLP (opCells l) (i * 2) ((opCells l).drop ((i + 1) * 2))).take ((l.length - 1) * 2) = opCells (l.eraseIdx i) := by
  have h1 : (opCells l).length = l.length * 2 := opCells_len l
  have h2 : ((opCells l).drop ((i + 1) * 2)).length = l.length * 2 - (i + 1) * 2 := by rw [List.length_drop, h1]
  rw [setL_eqP _ _ _ (by rw [h2, h1]; omega), List.eraseIdx_eq_take_drop_succ, opCells_app, opCells_drop, opCells_take]
  rw [List.take_append_of_le_length (by rw [List.length_append, List.length_take, h1, h2]; omega)]
  exact List.take_of_length_le (by rw [List.length_append, List.length_take, h1, h2]; omega)

def DelOPost (base g cap : Nat) (l : List POpen) (i : Nat) (w : World) (e : Ending) (w' : World) : Prop :=
  e = .returned (.slice (some ⟨g, 0, none⟩) (l.length - 1) cap) ∧ w'.ownsRow base 58 2 (.slice (some ⟨g, 0, none⟩) (l.length - 1) cap) (l.eraseIdx i).length (opCells (l.eraseIdx i)) ∧ Fr (fun k => k = g) w w'

set_option maxHeartbeats 4000000 in
theorem deleteOp_any (base g cap : Nat) (l : List POpen) (i j : Nat) (w : World) (hl : l.length ≤ 1000000000) (hi : i < l.length) (hj : j = i + 1)
    (hown : w.ownsRow base 58 2 (.slice (some ⟨g, 0, none⟩) l.length cap) l.length (opCells l)) :
    Calls Tryz.prog 78 #[.slice (some ⟨g, 0, none⟩) l.length cap, .int .i64 i, .int .i64 j] w (DelOPost base g cap l i w) := by
  obtain ⟨hcap, _, hcm⟩ := own_cap8P hown
  obtain ⟨i0, hi0, hz0, hz1, hz2⟩ := info_parts Tryz.infoCloneOp
  have hg : g < w.heap.size := (hown.lt g rfl).2
  have hcell : ∀ k u, (opCells l)[k]? = some u → w.cell? ⟨g, k, none⟩ = some u := fun k u hk => by
    have hlt := (List.getElem?_eq_some_iff.1 hk).1
    rw [opCells_len] at hlt
    rw [hown.cellAt k hlt]; exact hk
  obtain ⟨news, hnews⟩ : ∃ news, news = (opCells l).drop (j * 2) := ⟨_, rfl⟩
  have hlen : news.length = (l.length - j) * 2 := by rw [hnews, List.length_drop, opCells_len]; omega
  obtain ⟨A, hA, hsrc⟩ : ∃ A : Addr, (if cap = j then some (⟨g, 0, none⟩ : Addr) else some ⟨g, j * 2, none⟩) = some A ∧ Hid (∀ t u, news[t]? = some u → w.drew.cell? (A.add t) = some u) := by
    by_cases h : cap = j
    · refine ⟨⟨g, 0, none⟩, by simp [h], fun t u hu => ?_⟩
      have h0 : news.length = 0 := by rw [hlen]; omega
      rw [List.length_eq_zero_iff.1 h0] at hu
      simp at hu
    · refine ⟨⟨g, j * 2, none⟩, by simp [h], fun t u hu => ?_⟩
      rw [hnews, List.getElem?_drop] at hu
      rw [Addr.add_lit]
      exact hcell _ u hu
  have s1 : Hid (news.length = (l.length - j) * 2) := hlen
  have s2 : Hid (∀ u ∈ news, u.oneCell' = true) := by
    intro u hu
    rw [hnews] at hu
    exact op_one l u (List.mem_of_mem_drop hu)
  have s3 : Hid (∀ t, t < news.length → (w.drew.cell? ⟨g, 0 + i * 2 + t, none⟩).isSome = true ∧ w.drew.frozen? ⟨g, 0 + i * 2 + t, none⟩ = false) := by
    intro t ht
    rw [hlen] at ht
    rw [Nat.zero_add]
    have hlt9 : i * 2 + t < (opCells l).length := by rw [opCells_len]; omega
    refine ⟨?_, row_free hown _⟩
    show (w.cell? _).isSome = true
    rw [hcell _ _ (List.getElem?_eq_getElem hlt9)]; rfl
  obtain ⟨W1, hW1⟩ : ∃ W1, W1 = w.drew.setCells g (0 + i * 2) news := ⟨_, rfl⟩
  have hrow1 : W1.ownsRow base 58 2 (.slice (some ⟨g, 0, none⟩) l.length cap) l.length (setLP (opCells l) (i * 2) ((opCells l).drop ((i + 1) * 2))) := by
    rw [hW1, Nat.zero_add, hnews, hj]
    exact own_setLP (w := w.drew) _ hown.drew
  have hfr1 : Fr (fun k => k = g) w W1 := by
    rw [hW1]
    exact fr_cells (S := fun k => k = g) rfl _ (Fr.of_below (Below.refl w.heap.size w)).drew
  obtain ⟨z, hzv, hzs, hzo⟩ := op_zero
  have hcl : ∀ ty, (Builtin.clear_ #[54] ty #[.slice (some ⟨g, (i + (l.length - j)) * 2, none⟩) (l.length - (i + (l.length - j))) (cap - (i + (l.length - j)))]).run Tryz.prog W1 = .ok (.tuple #[]) (W1.setCells g ((i + (l.length - j)) * 2) (Builtin.zeroCells z.cells (l.length - (i + (l.length - j)))).toList) :=
    fun ty => run_clear_rows W1 _ _ ty z 2 Tryz.underlying54 hzv hzs hzo (by decide) g ((i + (l.length - j)) * 2) (l.length - (i + (l.length - j))) (cap - (i + (l.length - j))) (by omega) (fun k hk => by
      have hl9 := hrow1.1
      have hlt9 : (i + (l.length - j)) * 2 + k < l.length * 2 := by omega
      rw [hrow1.cellAt _ hlt9, List.getElem?_eq_getElem (by omega)]; rfl) (fun k _ => row_free hrow1 _)
  have hD : DelOPost base g cap l i w (.returned (.slice (some ⟨g, 0, none⟩) (i + (l.length - j)) cap)) (W1.setCells g ((i + (l.length - j)) * 2) (Builtin.zeroCells z.cells (l.length - (i + (l.length - j)))).toList) := by
    have e1 : i + (l.length - j) = l.length - 1 := by omega
    have e2 : (l.eraseIdx i).length = l.length - 1 := by rw [List.length_eraseIdx, if_pos hi]
    unfold DelOPost
    rw [e1, e2]
    have h2 := own_cut hrow1 (i := l.length - 1) (by omega)
    rw [op_erase l i hi] at h2
    exact ⟨rfl, own_cells_far _ h2 (Nat.le_refl _), fr_cells (S := fun k => k = g) rfl _ hfr1⟩
  have HD := hid hD
  have hW : Hid (W1 = w.drew.setCells g (0 + i * 2) news) := hW1
  have hic : i ≤ cap := by omega
  have hjc : j ≤ cap := by omega
  have hjl : j ≤ l.length := by omega
  have hij : i ≤ j := by omega
  have hne : ¬ i = j := by omega
  have HJ := hid hj
  have mixed : Tryz.prog.follows Departure.mixedOrders = true := by kernel_rfl
  generalize (Builtin.zeroCells z.cells (l.length - (i + (l.length - j)))).toList = zs at hcl HD
  generalize W1.setCells g ((i + (l.length - j)) * 2) zs = W2 at hcl HD
  clear hW1 hrow1 hfr1 hD hown hcell hnews hlen hzv hzs hzo hj hg
  go_enter Tryz.func78, Tryz.ntmps78
  go_wp2_with fail
  go_region_law_o (refine step_append_room rfl (.tmp 22) (.tmp 25) 54 rfl 58 i0 2 Tryz.underlying54 hi0 hz1 g 0 i cap (by simp [Act.eval, Act.put]) A (l.length - j) (cap - j) news (by simp [Act.eval, Act.put]) s1.out hsrc.out s2.out (by omega) s3.out ?_; rw [← hW.out])
  go_wp2_with fail
  go_ret
  exact HD.out
end Go.Proofs.YtgjkjkeeblbjlaaGreatDoor

namespace Go.Proofs.YtgjkjkeeblbjlaaGreatDoor
open Go.RowKit

def PaTook (p l : Nat) (w : World) (S : Nat → Prop) (s' : PPart) (e : Ending) (w' : World) : Prop :=
  e = .returned (.tuple #[]) ∧ (paThing p l).to w w' S s'

set_option maxHeartbeats 8000000 in
theorem paTook_any {w : World} {p l : Nat} {S : Nat → Prop} {s : PPart} (b : PBat) (ad : Option Addr) (cap : Nat) (pos : Int) (h : (paThing p l).held w S s) (hp8 : s.prods.length ≤ 8) (ho8 : s.opens.length ≤ 1000000) (hg8 : s.gones.length ≤ 1000000) :
    Calls Tryz.prog 48 #[.pointer (some ⟨p, 0, none⟩), b.val (.slice ad b.l.length cap), .int .i64 pos] w (PaTook p l w S (s.took b pos)) := by
  obtain ⟨i0, hi0, hz0, hz1, hz2⟩ := info_parts Tryz.infoCloneOp
  obtain ⟨i1, hi1, hy0, hy1, hy2⟩ := info_parts Tryz.infoCloneGo
  obtain ⟨sR, hsR⟩ : ∃ sR, s.took b pos = sR := ⟨_, rfl⟩
  rw [hsR]
  have HR := hid hsR
  have HH := hid h
  have hb0 : Below w.heap.size w (w.alloc (.cells #[.int .i64 b.kind, .int .i64 b.pid, .int .i64 b.epoch, .int .i64 b.seq, .slice ad b.l.length cap] 31)) := bel_alloc (Below.refl _ _) _
  have HB0 := hid hb0
  have HK0 := hid (Blk.new w #[.int .i64 b.kind, .int .i64 b.pid, .int .i64 b.epoch, .int .i64 b.seq, .slice ad b.l.length cap] 31)
  obtain ⟨pv, ov, gv, hr, hS⟩ := h
  have hr0 := hr
  have hplt := hr.hdr.lt
  have hne : p ≠ w.heap.size := by omega
  have k1 := hr.hdr.cell (i := 1) (v := pv) rfl
  have HREP := hid hr
  have HS := hid hS
  have HNOTE := hid (fun (W : World) (hW : Below w.heap.size w W) => note_any b ad cap pos (own_bel hr.prods hW) hp8)
  clear hsR hb0 hr hS hr0 hplt
  unfold PBat.val at HNOTE ⊢
  go_enter Tryz.func48, Tryz.ntmps48
  go_wp2_with fail
  refine wp_region_last (fun w' => w'.cell? ⟨p, 1, none⟩ = some pv ∧ w'.cell? ⟨w.heap.size, 0, none⟩ = some (.int .i64 b.kind) ∧ w'.cell? ⟨w.heap.size, 1, none⟩ = some (.int .i64 b.pid) ∧ w'.cell? ⟨w.heap.size, 2, none⟩ = some (.int .i64 b.epoch) ∧ w'.cell? ⟨w.heap.size, 3, none⟩ = some (.int .i64 b.seq) ∧ w'.cell? ⟨w.heap.size, 4, none⟩ = some (.slice ad b.l.length cap)) 10 [7] [0, 1, 2, 3, 4, 5, 6, 7, 8, 9] (by kernel_rfl) (by kernel_rfl) (fun _ _ _ _ _ h => h) (by go_keep) (fun hHeld => ?_)
  iterate 7
    refine last_take (v := ?_) rfl (by kernel_rfl) (by kernel_rfl) ?_ ?_
    rotate_left
    focus
      intro w' hSw
      try dsimp only at hSw
      go_simp <;> with_reducible rfl
    simp only [Act.put, List.setIfInBounds_toArray]
  refine last_law rfl (by kernel_rfl) (by kernel_rfl) (fun K hK => ?_)
  go_simp
  refine (HNOTE.out _ (by exact HB0.out.drew)).mono ?_
  rintro e w2 ⟨v2, rfl, hrow2, hb2⟩
  have hb02 := bel_next HB0.out.drew hb2
  have hbk2 := HK0.out.drew.below' hb2
  have hhd2 := HREP.out.hdr.below' hb02
  have y1 := hhd2.cell (i := 1) (v := pv) rfl
  have z0 := hbk2.cell (i := 0) (v := .int .i64 b.kind) rfl
  have z1 := hbk2.cell (i := 1) (v := .int .i64 b.pid) rfl
  have z2 := hbk2.cell (i := 2) (v := .int .i64 b.epoch) rfl
  have z3 := hbk2.cell (i := 3) (v := .int .i64 b.seq) rfl
  have z4 := hbk2.cell (i := 4) (v := .slice ad b.l.length cap) rfl
  have yf := hhd2.free 1
  obtain ⟨va, vc, rfl⟩ := row_slice hrow2
  have HB2 := hid hb02
  have HROW2 := hid hrow2
  have HBK2 := hid hbk2
  have hs0 : (w.alloc (.cells #[.int .i64 b.kind, .int .i64 b.pid, .int .i64 b.epoch, .int .i64 b.seq, .slice ad b.l.length cap] 31)).drew.heap.size = w.heap.size + 1 := by simp
  have HS0 := hid hs0
  clear hrow2 hb02 hb2 hbk2 hhd2 hs0
  go_simp
  refine hK.out _ _ (by exact ⟨y1, z0, z1, z2, z3, z4⟩) (fun hHeld => ?_)
  clear hK K
  try simp only [Act.put, List.setIfInBounds_toArray, List.set_cons_zero, List.set_cons_succ]
  iterate 2
    refine last_take (v := ?_) rfl (by kernel_rfl) (by kernel_rfl) ?_ ?_
    rotate_left
    focus
      intro w' hSw
      try dsimp only at hSw
      go_simp <;> with_reducible rfl
    simp only [Act.put, List.setIfInBounds_toArray]
  refine last_step rfl (by kernel_rfl) (fun K hK => ?_)
  go_simp
  refine hK _ _ ?_
  clear hK K
  try simp only [Act.put, List.setIfInBounds_toArray, List.set_cons_zero, List.set_cons_succ]
  have hto := HREP.out.prods_to HS.out HB2.out (l1 := noteP s.prods b pos) (v := .slice va (noteP s.prods b pos).length vc) HROW2.out (fun k hk => by have := (HROW2.out.lt k hk).1; rw [HS0.out] at this; omega)
  obtain ⟨S3, ht3⟩ := Thing.to_open hto
  have HT3 := hid ht3
  have hbk3 := HBK2.out.fr (S := fun k => k = p) ((Fr.refl (fun k => k = p) w2).setCell (p := ⟨p, 1, none⟩) (.inl rfl) (.slice va (noteP s.prods b pos).length vc)) (fun h9 => hne h9.symm)
  have HBK3 := hid hbk3
  clear hto ht3 hbk3 HROW2 HBK2 HB2 y1 yf z0 z1 z2 z3 z4 hHeld k1 HNOTE HB0 HK0
  generalize w2.setCell ⟨p, 1, none⟩ (.slice va (noteP s.prods b pos).length vc) = w3 at HT3 HBK3 ⊢
  have x1 := HBK3.out.cell (i := 1) (v := .int .i64 b.pid) rfl
  go_wp2_with fail
  refine (paFind_any b.pid HT3.out.held ho8).mono ?_
  rintro e w4 ⟨⟨r, rfl, hfo⟩, hb4⟩
  have HFO : Hid (FindO s.opens b.pid r) := hid hfo
  have HT4 := hid (HT3.out.below hb4)
  have HBK4 := hid (HBK3.out.below' hb4)
  have z0 := HBK4.out.cell (i := 0) (v := .int .i64 b.kind) rfl
  have z1 := HBK4.out.cell (i := 1) (v := .int .i64 b.pid) rfl
  clear hfo hb4 HT3 HBK3 x1
  obtain ⟨pv4, ov4, gv4, hr4, hS4⟩ := HT4.out.held
  have HREP4 := hid hr4
  have HS4 := hid hS4
  have x2 := hr4.hdr.cell (i := 2) (v := ov4) rfl
  have x3 := hr4.hdr.cell (i := 3) (v := gv4) rfl
  have hnb : ∀ {e : TypeId} {sz n : Nat} {v : Value} {xs : List Value}, w4.ownsRow 0 e sz v n xs → 31 ≠ e → ¬ v.ownBlock = some w.heap.size := fun h9 hne9 => own_not h9 HBK4.out hne9
  clear hr4 hS4
  rcases HFO.out with ⟨rfl, hon⟩ | ⟨k, o0, rfl, hko, hop, hoo, hoc⟩
  · have HON := hid hon
    clear hon HFO
    by_cases hk2 : b.kind = 2
    · have HR9 : Hid (PPart.mk (noteP s.prods b pos) (s.opens ++ [⟨b.pid, pos⟩]) s.gones = sR) := hid (by
        rw [← HR.out]; unfold PPart.took; rw [HON.out]; dsimp only; rw [if_pos hk2])
      have HNB4 := hid (hnb HREP4.out.opens (by decide))
      have HNP4 : Hid (¬ ov4.ownBlock = some p) := hid (own_not HREP4.out.opens HREP4.out.hdr (by decide))
      rw [hk2] at z0
      clear HR HON hnb hk2
      go_wp2_with fail
      refine wp_region_last (fun w' => w'.cell? ⟨p, 2, none⟩ = some ov4 ∧ w'.cell? ⟨w.heap.size, 1, none⟩ = some (.int .i64 b.pid)) 13 [9, 10] [0, 1, 2, 3, 4, 5, 6, 7, 8, 9, 10, 11, 12] (by kernel_rfl) (by kernel_rfl) (fun _ _ _ _ _ h => h) (by go_keep) (fun hHeld => ?_)
      iterate 9
        refine last_take (v := ?_) rfl (by kernel_rfl) (by kernel_rfl) ?_ ?_
        rotate_left
        focus
          intro w' hSw
          try dsimp only at hSw
          go_simp <;> with_reducible rfl
        simp only [Act.put, List.setIfInBounds_toArray]
      refine last_law rfl (by kernel_rfl) (by kernel_rfl) (fun K hK => ?_)
      go_simp
      refine hK.out _ _ (by go_keep) (fun hHeld => ?_)
      clear hK K
      try simp only [Act.put, List.setIfInBounds_toArray, List.set_cons_zero, List.set_cons_succ]
      refine last_law rfl (by kernel_rfl) (by kernel_rfl) (fun K hK => ?_)
      refine wp_append_lies _ _ _ 54 (by rfl) 0 58 i0 _ 2 16 Tryz.underlying54 hi0 hz0 hz1 hz2 rfl (by omega) ov4 s.opens.length (opCells s.opens) (by rfl) (HREP4.out.opens.drew.alloc _) ⟨w4.heap.size, 0, none⟩ 1 1 [.int .i64 b.pid, .int .i64 pos] (by rfl) (by rfl) (World.news_of_block (cs := #[.int .i64 b.pid, .int .i64 pos]) (t := 58) (fr := (0, 0)) (heap_alloc_new w4.drew _)) (by simp [Value.oneCell']) (by omega) (by unfold maxLen; omega) (by omega) (by simp) (w4.heap.size + 1) (by simp) ?_
      intro gg cap7 w7 hown7 hgrow7 hat7 hlt7
      have hfr7 : Fr (fun k => ov4.ownBlock = some k) w4 w7 := (Fr.of_below (bel_alloc (Below.refl w4.heap.size w4) _).drew).trans (fr_grown hgrow7)
      have hhd7 := HREP4.out.hdr.fr hfr7 HNP4.out
      have hbk7 := HBK4.out.fr hfr7 HNB4.out
      have HFR7 := hid hfr7
      have HBK7 := hid hbk7
      have HOWN7 := hid hown7
      have HAT7 := hid hat7
      have y2 := hhd7.cell (i := 2) (v := ov4) rfl
      have y3 := hhd7.cell (i := 3) (v := gv4) rfl
      have u1 := hbk7.cell (i := 1) (v := .int .i64 b.pid) rfl
      have yf := hhd7.free 2
      clear hfr7 hhd7 hbk7 hown7 hgrow7 hat7 hlt7
      refine hK.out _ _ (by exact ⟨y2, u1⟩) (fun hHeld => ?_)
      clear hK K
      try simp only [Act.put, List.setIfInBounds_toArray]
      iterate 2
        refine last_take (v := ?_) rfl (by kernel_rfl) (by kernel_rfl) ?_ ?_
        rotate_left
        focus
          intro w' hSw
          try dsimp only at hSw
          go_simp <;> with_reducible rfl
        simp only [Act.put]
      refine last_step rfl (by kernel_rfl) (fun K hK => ?_)
      go_simp
      refine hK _ _ ?_
      clear hK K
      try simp only [Act.put, List.setIfInBounds_toArray, List.set_cons_zero, List.set_cons_succ]
      have hto := HREP4.out.opens_to HS4.out HFR7.out (l1 := s.opens ++ [⟨b.pid, pos⟩]) (v := .slice (some ⟨gg, 0, none⟩) (s.opens.length + 1) cap7) (n := s.opens.length + 1) (by simp) (by rw [opCells_app]; exact HOWN7.out) (fun k hk => by
        simp only [Value.ownBlock, Option.some.injEq] at hk
        subst hk
        rcases HAT7.out with h9 | h9
        · exact .inl h9
        · exact .inr (by omega))
      have HT8 := hid (HT4.out.next hto)
      go_wp2_with fail
      rw [← HR9.out]
      exact ⟨rfl, .tuple #[], by simp [results, Tryz.results48, go_sem], rfl, HT8.out⟩
    · have HR9 : Hid (PPart.mk (noteP s.prods b pos) s.opens s.gones = sR) := hid (by
        rw [← HR.out]; unfold PPart.took; rw [HON.out]; dsimp only; rw [if_neg hk2])
      have d1 : decide (b.kind = 2) = false := decide_eq_false hk2
      have d2 : (b.kind == 2) = false := by simpa using hk2
      clear HR HON hnb
      by_cases hk4 : b.kind = 4
      · rw [hk4] at z0
        clear hk2 hk4 d1 d2
        go_wp2_with fail
        rw [← HR9.out]
        exact ⟨rfl, .tuple #[], by simp [results, Tryz.results48, go_sem], rfl, HT4.out.to⟩
      · have d3 : decide (b.kind = 4) = false := decide_eq_false hk4
        have d4 : (b.kind == 4) = false := by simpa using hk4
        by_cases hk3 : b.kind = 3
        · rw [hk3] at z0
          clear hk2 hk4 hk3 d1 d2 d3 d4
          go_wp2_with fail
          rw [← HR9.out]
          exact ⟨rfl, .tuple #[], by simp [results, Tryz.results48, go_sem], rfl, HT4.out.to⟩
        · have d5 : decide (b.kind = 3) = false := decide_eq_false hk3
          have d6 : (b.kind == 3) = false := by simpa using hk3
          clear hk2 hk4 hk3
          go_wp2_with fail
          rw [← HR9.out]
          exact ⟨rfl, .tuple #[], by simp [results, Tryz.results48, go_sem], rfl, HT4.out.to⟩
  · have hkl := (List.getElem?_eq_some_iff.1 hko).1
    have hk0 : (0 : Int) ≤ (k : Int) := by omega
    have hk1 : (k : Int) < (s.opens.length : Int) := by omega
    have hkn1 : decide ((k : Int) < 0) = false := decide_eq_false (by omega)
    have hkn2 : decide ((0 : Int) ≤ (k : Int)) = true := decide_eq_true hk0
    have HOO := hid hoo
    have HOC := hid hoc
    obtain ⟨g4, cap4, rfl⟩ : ∃ g cap, ov4 = .slice (some ⟨g, 0, none⟩) s.opens.length cap := by
      rcases Joins.ownsRow_forms HREP4.out.opens with ⟨_, hz⟩ | ⟨g, cap, e9⟩
      · have hz2 : s.opens.length = 0 := hz
        omega
      · exact ⟨g, cap, e9⟩
    obtain ⟨_, f1⟩ := OpRead.own HREP4.out.opens k o0 hko
    clear hoo hoc HFO
    by_cases hk4 : b.kind = 4
    · have HR9 : Hid (PPart.mk (noteP s.prods b pos) (openCut s.opens b.pid) (s.gones ++ [⟨b.pid, o0.first, pos⟩]) = sR) := hid (by
        rw [← HR.out]; unfold PPart.took; rw [HOO.out]; dsimp only; rw [if_pos (.inr hk4), if_pos hk4])
      have HNB4 := hid (hnb HREP4.out.gones (by decide))
      have HNP4 : Hid (¬ gv4.ownBlock = some p) := hid (own_not HREP4.out.gones HREP4.out.hdr (by decide))
      have HNG4 : Hid (¬ gv4.ownBlock = some g4) := hid (fun h9 => row_two HREP4.out.gones HREP4.out.opens (by decide) h9 rfl)
      rw [hk4] at z0
      have hpg : p ≠ g4 := fun h9 => own_not HREP4.out.opens HREP4.out.hdr (by decide) (by rw [h9]; rfl)
      clear HR HOO hnb hk4
      go_wp2_with fail
      refine wp_region_last (fun w' => w'.cell? ⟨p, 3, none⟩ = some gv4 ∧ w'.cell? ⟨p, 2, none⟩ = some (.slice (some ⟨g4, 0, none⟩) s.opens.length cap4) ∧ w'.cell? ⟨g4, k * 2 + 1, none⟩ = some (.int .i64 o0.first) ∧ w'.cell? ⟨w.heap.size, 1, none⟩ = some (.int .i64 b.pid)) 21 [17, 18] [0, 1, 2, 3, 4, 5, 6, 7, 8, 9, 10, 11, 12, 13, 14, 15, 16, 17, 18, 19, 20] (by kernel_rfl) (by kernel_rfl) (fun _ _ _ _ _ h => h) (by go_keep) (fun hHeld => ?_)
      iterate 17
        refine last_take (v := ?_) rfl (by kernel_rfl) (by kernel_rfl) ?_ ?_
        rotate_left
        focus
          intro w' hSw
          try dsimp only at hSw
          go_simp <;> with_reducible rfl
        simp only [Act.put, List.setIfInBounds_toArray]
      refine last_law rfl (by kernel_rfl) (by kernel_rfl) (fun K hK => ?_)
      go_simp
      refine hK.out _ _ (by go_keep) (fun hHeld => ?_)
      clear hK K
      try simp only [Act.put, List.setIfInBounds_toArray, List.set_cons_zero, List.set_cons_succ]
      refine last_law rfl (by kernel_rfl) (by kernel_rfl) (fun K hK => ?_)
      refine wp_append_lies _ _ _ 66 (by rfl) 0 111 i1 _ 3 24 Tryz.underlying66 hi1 hy0 hy1 hy2 rfl (by omega) gv4 s.gones.length (goCells s.gones) (by rfl) (HREP4.out.gones.drew.alloc _) ⟨w4.heap.size, 0, none⟩ 1 1 [.int .i64 b.pid, .int .i64 o0.first, .int .i64 pos] (by rfl) (by rfl) (World.news_of_block (cs := #[.int .i64 b.pid, .int .i64 o0.first, .int .i64 pos]) (t := 111) (fr := (0, 0)) (heap_alloc_new w4.drew _)) (by simp [Value.oneCell']) (by omega) (by unfold maxLen; omega) (by omega) (by simp) (w4.heap.size + 1) (by simp) ?_
      intro gg cap7 w7 hown7 hgrow7 hat7 hlt7
      have hfr7 : Fr (fun k => gv4.ownBlock = some k) w4 w7 := (Fr.of_below (bel_alloc (Below.refl w4.heap.size w4) _).drew).trans (fr_grown hgrow7)
      have hhd7 := HREP4.out.hdr.fr hfr7 HNP4.out
      have hbk7 := HBK4.out.fr hfr7 HNB4.out
      have HFR7 := hid hfr7
      have HBK7 := hid hbk7
      have HOWN7 := hid hown7
      have HAT7 := hid hat7
      have y2 := hhd7.cell (i := 2) (v := .slice (some ⟨g4, 0, none⟩) s.opens.length cap4) rfl
      have y3 := hhd7.cell (i := 3) (v := gv4) rfl
      have u1 := hbk7.cell (i := 1) (v := .int .i64 b.pid) rfl
      have yf := hhd7.free 3
      have hro7 := row_fr HREP4.out.opens HFR7.out (fun k9 hk9 => fun h9 => row_two HREP4.out.gones HREP4.out.opens (by decide) h9 hk9)
      have u2 := (OpRead.own hro7 k o0 hko).2
      clear hro7
      clear hfr7 hhd7 hbk7 hown7 hgrow7 hat7 hlt7
      refine hK.out _ _ (by exact ⟨y3, y2, u2, u1⟩) (fun hHeld => ?_)
      clear hK K
      try simp only [Act.put, List.setIfInBounds_toArray]
      iterate 2
        refine last_take (v := ?_) rfl (by kernel_rfl) (by kernel_rfl) ?_ ?_
        rotate_left
        focus
          intro w' hSw
          try dsimp only at hSw
          go_simp <;> with_reducible rfl
        simp only [Act.put]
      refine last_step rfl (by kernel_rfl) (fun K hK => ?_)
      go_simp
      refine hK _ _ ?_
      clear hK K
      try simp only [Act.put, List.setIfInBounds_toArray, List.set_cons_zero, List.set_cons_succ]
      have hto := HREP4.out.gones_to HS4.out HFR7.out (l1 := s.gones ++ [⟨b.pid, o0.first, pos⟩]) (v := .slice (some ⟨gg, 0, none⟩) (s.gones.length + 1) cap7) (n := s.gones.length + 1) (by simp) (by rw [goCells_app]; exact HOWN7.out) (fun k hk => by
        simp only [Value.ownBlock, Option.some.injEq] at hk
        subst hk
        rcases HAT7.out with h9 | h9
        · exact .inl h9
        · exact .inr (by omega))
      obtain ⟨S8, ht8⟩ := Thing.to_open (HT4.out.next hto)
      have HT8 := hid ht8
      clear hto ht8 HREP4 HS4 HFR7 HOWN7 HAT7 HT4 HBK4 HBK7 HNB4 HNP4 HNG4 x2 x3 f1 z0 z1 y2 y3 u1 u2 yf hHeld
      generalize w7.setCell ⟨p, 3, none⟩ (.slice (some ⟨gg, 0, none⟩) (s.gones.length + 1) cap7) = w8 at HT8 ⊢
      obtain ⟨pv8, ov8, gv8, hr8, hS8⟩ := HT8.out.held
      have x8 := hr8.hdr.cell (i := 2) (v := ov8) rfl
      obtain ⟨g8, cap8, rfl⟩ : ∃ g cap, ov8 = .slice (some ⟨g, 0, none⟩) s.opens.length cap := by
        rcases Joins.ownsRow_forms hr8.opens with ⟨_, hz⟩ | ⟨g, cap, e9⟩
        · have hz2 : s.opens.length = 0 := hz
          omega
        · exact ⟨g, cap, e9⟩
      have hdel := deleteOp_any 0 g8 cap8 s.opens k (k + 1) w8 (by omega) hkl rfl hr8.opens
      rw [show ((k + 1 : Nat) : Int) = (k : Int) + 1 by omega] at hdel
      have hpg8 : ¬ p = g8 := fun h9 => own_not hr8.opens hr8.hdr (by decide) (by rw [h9]; rfl)
      have HREP8 := hid hr8
      have HS8 := hid hS8
      have HDEL := hid hdel
      clear hr8 hS8 hdel
      go_wp2_with fail
      refine HDEL.out.mono ?_
      rintro e w9 ⟨rfl, hrow9, hfr9⟩
      have hhd9 := HREP8.out.hdr.fr hfr9 hpg8
      have q2 := hhd9.cell (i := 2) (v := .slice (some ⟨g8, 0, none⟩) s.opens.length cap8) rfl
      have qf := hhd9.free 2
      have hto9 := HREP8.out.opens_to HS8.out (hfr9.mono (fun k9 _ hk9 => by subst hk9; rfl)) (l1 := openCut s.opens b.pid) (v := .slice (some ⟨g8, 0, none⟩) (s.opens.length - 1) cap8) (n := (s.opens.eraseIdx k).length) (by rw [HOC.out]) (by rw [HOC.out]; exact hrow9) (fun k9 hk9 => .inl hk9)
      have HT9 := hid (HT8.out.next hto9)
      clear hhd9 hto9 hrow9 hfr9 HREP8 HS8 HDEL
      go_wp2_with fail
      rw [← HR9.out]
      exact ⟨rfl, .tuple #[], by simp [results, Tryz.results48, go_sem], rfl, HT9.out⟩
    · have d3 : decide (b.kind = 4) = false := decide_eq_false hk4
      have d4 : (b.kind == 4) = false := by simpa using hk4
      by_cases hk3 : b.kind = 3
      · have HR9 : Hid (PPart.mk (noteP s.prods b pos) (openCut s.opens b.pid) s.gones = sR) := hid (by
          rw [← HR.out]; unfold PPart.took; rw [HOO.out]; dsimp only; rw [if_pos (.inl hk3), if_neg hk4])
        rw [hk3] at z0
        clear HR HOO hnb hk4 hk3 d3 d4 HBK4 HREP4 HS4 x2 x3 f1
        obtain ⟨pv8, ov8, gv8, hr8, hS8⟩ := HT4.out.held
        have x8 := hr8.hdr.cell (i := 2) (v := ov8) rfl
        obtain ⟨g8, cap8, rfl⟩ : ∃ g cap, ov8 = .slice (some ⟨g, 0, none⟩) s.opens.length cap := by
          rcases Joins.ownsRow_forms hr8.opens with ⟨_, hz⟩ | ⟨g, cap, e9⟩
          · have hz2 : s.opens.length = 0 := hz
            omega
          · exact ⟨g, cap, e9⟩
        have hdel := deleteOp_any 0 g8 cap8 s.opens k (k + 1) w4 (by omega) hkl rfl hr8.opens
        rw [show ((k + 1 : Nat) : Int) = (k : Int) + 1 by omega] at hdel
        have hpg8 : ¬ p = g8 := fun h9 => own_not hr8.opens hr8.hdr (by decide) (by rw [h9]; rfl)
        have HREP8 := hid hr8
        have HS8 := hid hS8
        have HDEL := hid hdel
        clear hr8 hS8 hdel
        go_wp2_with fail
        refine HDEL.out.mono ?_
        rintro e w9 ⟨rfl, hrow9, hfr9⟩
        have hhd9 := HREP8.out.hdr.fr hfr9 hpg8
        have q2 := hhd9.cell (i := 2) (v := .slice (some ⟨g8, 0, none⟩) s.opens.length cap8) rfl
        have qf := hhd9.free 2
        have hto9 := HREP8.out.opens_to HS8.out (hfr9.mono (fun k9 _ hk9 => by subst hk9; rfl)) (l1 := openCut s.opens b.pid) (v := .slice (some ⟨g8, 0, none⟩) (s.opens.length - 1) cap8) (n := (s.opens.eraseIdx k).length) (by rw [HOC.out]) (by rw [HOC.out]; exact hrow9) (fun k9 hk9 => .inl hk9)
        have HT9 := hid (HT4.out.next hto9)
        clear hhd9 hto9 hrow9 hfr9 HREP8 HS8 HDEL
        go_wp2_with fail
        rw [← HR9.out]
        exact ⟨rfl, .tuple #[], by simp [results, Tryz.results48, go_sem], rfl, HT9.out⟩
      · have HR9 : Hid (PPart.mk (noteP s.prods b pos) s.opens s.gones = sR) := hid (by
          rw [← HR.out]; unfold PPart.took; rw [HOO.out]; dsimp only; rw [if_neg (by omega), if_neg hk4])
        have d5 : decide (b.kind = 3) = false := decide_eq_false hk3
        have d6 : (b.kind == 3) = false := by simpa using hk3
        clear HR HOO hnb
        by_cases hk2 : b.kind = 2
        · rw [hk2] at z0
          clear hk2 hk3 hk4 d3 d4 d5 d6
          go_wp2_with fail
          rw [← HR9.out]
          exact ⟨rfl, .tuple #[], by simp [results, Tryz.results48, go_sem], rfl, HT4.out.to⟩
        · have d1 : decide (b.kind = 2) = false := decide_eq_false hk2
          have d2 : (b.kind == 2) = false := by simpa using hk2
          clear hk2 hk3 hk4
          go_wp2_with fail
          rw [← HR9.out]
          exact ⟨rfl, .tuple #[], by simp [results, Tryz.results48, go_sem], rfl, HT4.out.to⟩
end Go.Proofs.YtgjkjkeeblbjlaaGreatDoor
