/-
  seglog: a log in the memory. No conditions.
-/
import Derived.Test.YtnibpknhpjcamaaGreatDoorLogS
import Derived.Lib.OwnKind
set_option maxRecDepth 100000
namespace Go.Proofs.YtnibpknhpjcamaaGreatDoor
open Go.RowKit

/-- The cells of segments, whose marks' slices are ms. -/
def segCells : List PSeg → List Value → List Value
  | x :: l, v :: m => [.int .i64 x.base, .int .i64 x.bytes, .int .i64 x.entries, v] ++ segCells l m
  | _, _ => []

theorem segCells_len : ∀ (l : List PSeg) (m : List Value), m.length = l.length → (segCells l m).length = l.length * 4
  | [], _, _ => by simp [segCells]
  | x :: l, [], h => by simp at h
  | x :: l, v :: m, h => by
    simp only [List.length_cons] at h
    rw [segCells, List.length_append, segCells_len l m (by omega)]
    simp; omega

theorem segCells_app : ∀ (l l' : List PSeg) (m m' : List Value), m.length = l.length → segCells (l ++ l') (m ++ m') = segCells l m ++ segCells l' m'
  | [], l', m, m', h => by
    have : m = [] := by simpa using h
    subst this
    simp [segCells]
  | x :: l, l', [], m', h => by simp at h
  | x :: l, l', v :: m, m', h => by
    simp only [List.length_cons] at h
    simp only [List.cons_append, segCells]
    rw [segCells_app l l' m m' (by omega)]
    simp

theorem segCells_at : ∀ (l : List PSeg) (m : List Value) (i : Nat) (x : PSeg) (v : Value), l[i]? = some x → m[i]? = some v → ∀ j, (segCells l m)[i * 4 + j]? = if j < 4 then [Value.int .i64 x.base, .int .i64 x.bytes, .int .i64 x.entries, v][j]? else (segCells l m)[i * 4 + j]?
  | [], _, i, x, v, h, _, _ => by simp at h
  | y :: l, [], i, x, v, _, h, _ => by simp at h
  | y :: l, u :: m, 0, x, v, h1, h2, j => by
    simp only [List.getElem?_cons_zero, Option.some.injEq] at h1 h2
    subst h1 h2
    split
    · rename_i hj
      rw [Nat.zero_mul, Nat.zero_add, segCells, List.getElem?_append_left (by simpa using hj)]
    · rfl
  | y :: l, u :: m, i + 1, x, v, h1, h2, j => by
    simp only [List.getElem?_cons_succ] at h1 h2
    have e : (i + 1) * 4 + j = 4 + (i * 4 + j) := by omega
    split
    · rename_i hj
      rw [e, segCells, List.getElem?_append_right (by simp)]
      simp only [List.length_cons, List.length_nil]
      rw [show 4 + (i * 4 + j) - (0 + 1 + 1 + 1 + 1) = i * 4 + j from by omega, segCells_at l m i x v h1 h2 j, if_pos hj]
    · rfl

structure LogRep (w : World) (l d : Nat) (ms : List Value) (sv : Value) (L : PLog) : Prop where
  hdr : Blk w l #[ptr d, .string (bs L.name), sv, .int .i64 L.first, .int .i64 L.next, .int .i64 L.sure, .int .i64 L.e] 97
  len : ms.length = L.segs.length
  segs : w.ownsRow 0 99 4 sv L.segs.length (segCells L.segs ms)
  marks : ∀ (i : Nat) (x : PSeg) (v : Value), L.segs[i]? = some x → ms[i]? = some v → w.ownsRow 0 54 3 v x.marks.length (markCells x.marks)
  apart : ∀ (i j : Nat) (a b : Value) (k : Nat), ms[i]? = some a → ms[j]? = some b → a.ownBlock = some k → b.ownBlock = some k → i = j

/-- The blocks of a log. -/
def footL (l : Nat) (ms : List Value) (sv : Value) (k : Nat) : Prop := k = l ∨ sv.ownBlock = some k ∨ ∃ v ∈ ms, v.ownBlock = some k

def LogAt (w : World) (l d : Nat) (S : Nat → Prop) (L : PLog) : Prop := ∃ ms sv, LogRep w l d ms sv L ∧ ∀ k, S k ↔ footL l ms sv k

/-- A row stands where its block does. -/
theorem row_fr {S : Nat → Prop} {w w' : World} {base : Nat} {e : TypeId} {size : Nat} {v : Value} {n : Nat} {xs : List Value} (h : w.ownsRow base e size v n xs) (hf : Fr S w w') (hn : ∀ k, v.ownBlock = some k → ¬ S k) : w'.ownsRow base e size v n xs := by
  refine ⟨h.1, ?_⟩
  rcases h.2 with h2 | ⟨g, cap, cur, hv, hg, hh, r⟩
  · exact .inl h2
  · exact .inr ⟨g, cap, cur, hv, hg, (hf.block g (Array.getElem?_eq_some_iff.1 hh).1 (hn g (by rw [hv]; rfl))).trans hh, r⟩

theorem LogRep.fr {S : Nat → Prop} {w w' : World} {l d : Nat} {ms : List Value} {sv : Value} {L : PLog} (h : LogRep w l d ms sv L) (hf : Fr S w w') (hn : ∀ k, footL l ms sv k → ¬ S k) : LogRep w' l d ms sv L :=
  ⟨h.hdr.fr hf (hn _ (.inl rfl)), h.len, row_fr h.segs hf (fun k hk => hn k (.inr (.inl hk))),
   fun i x v hx hv => row_fr (h.marks i x v hx hv) hf (fun k hk => hn k (.inr (.inr ⟨v, List.mem_of_getElem? hv, hk⟩))), h.apart⟩

theorem LogAt.fr {S S0 : Nat → Prop} {w w' : World} {l d : Nat} {L : PLog} (h : LogAt w l d S L) (hf : Fr S0 w w') (hn : ∀ k, S k → ¬ S0 k) : LogAt w' l d S L := by
  obtain ⟨ms, sv, h1, h2⟩ := h
  exact ⟨ms, sv, h1.fr hf (fun k hk => hn k ((h2 k).2 hk)), h2⟩

theorem LogAt.below {S : Nat → Prop} {w w' : World} {l d : Nat} {L : PLog} (h : LogAt w l d S L) (hb : Below w.heap.size w w') : LogAt w' l d S L :=
  h.fr (S0 := fun _ => False) (Fr.of_below hb) (fun _ _ h => h)

/-- Of what type a block of a log is. -/
theorem LogRep.kind {w : World} {l d : Nat} {ms : List Value} {sv : Value} {L : PLog} (h : LogRep w l d ms sv L) {k : Nat} (hk : footL l ms sv k) :
    ∃ c T fz, w.heap[k]? = some (.cells c T fz) ∧ (T = 97 ∨ T = 99 ∨ T = 54) := by
  rcases hk with rfl | hk | ⟨v, hv, hk⟩
  · exact ⟨_, _, _, h.hdr, .inl rfl⟩
  · obtain ⟨c, fz, hc⟩ := Lib.ownsRow_kind h.segs k hk
    exact ⟨c, _, fz, hc, .inr (.inl rfl)⟩
  · obtain ⟨i, hi, he⟩ := List.mem_iff_getElem.1 hv
    have hm : ms[i]? = some v := by rw [List.getElem?_eq_getElem hi, he]
    have hi2 : i < L.segs.length := by rw [← h.len]; exact hi
    obtain ⟨c, fz, hc⟩ := Lib.ownsRow_kind (h.marks i _ v (List.getElem?_eq_getElem hi2) hm) k hk
    exact ⟨c, _, fz, hc, .inr (.inr rfl)⟩

theorem LogAt.kind {S : Nat → Prop} {w : World} {l d : Nat} {L : PLog} (h : LogAt w l d S L) {k : Nat} (hk : S k) :
    ∃ c T fz, w.heap[k]? = some (.cells c T fz) ∧ (T = 97 ∨ T = 99 ∨ T = 54) := by
  obtain ⟨ms, sv, h1, h2⟩ := h
  exact h1.kind ((h2 k).1 hk)

theorem LogAt.lt {S : Nat → Prop} {w : World} {l d : Nat} {L : PLog} (h : LogAt w l d S L) {k : Nat} (hk : S k) : k < w.heap.size := by
  obtain ⟨c, T, fz, hc, _⟩ := h.kind hk
  exact (Array.getElem?_eq_some_iff.1 hc).1

theorem LogAt.other {S : Nat → Prop} {w : World} {l d k : Nat} {L : PLog} (h : LogAt w l d S L) {c : Array Value} {T : TypeId} {fz : Nat × Nat} (hb : w.heap[k]? = some (.cells c T fz)) (h1 : T ≠ 97) (h2 : T ≠ 99) (h3 : T ≠ 54) : ¬ S k := by
  intro hs
  obtain ⟨c', T', fz', hc, ht⟩ := h.kind hs
  rw [hb] at hc
  simp only [Option.some.injEq, Obj.cells.injEq] at hc
  rcases ht with e | e | e
  · exact h1 (hc.2.1.trans e)
  · exact h2 (hc.2.1.trans e)
  · exact h3 (hc.2.1.trans e)

/-- No block of a log is a disk's. -/
theorem LogAt.apart {S SD : Nat → Prop} {w : World} {l d d' : Nat} {L : PLog} {D : PDisk} (h : LogAt w l d S L) (hd : DiskAt w d' SD D) {k : Nat} (hk : S k) : ¬ SD k := by
  obtain ⟨c, T, fz, hc, ht⟩ := h.kind hk
  intro hs
  obtain ⟨m, fs, hr, hS⟩ := hd
  have key : ∀ T' c', Blk w k c' T' → T' ≠ 97 → T' ≠ 99 → T' ≠ 54 → False := by
    intro T' c' hb n1 n2 n3
    unfold Blk at hb
    rw [hc] at hb
    simp only [Option.some.injEq, Obj.cells.injEq] at hb
    rcases ht with e | e | e
    · exact n1 (hb.2.1.symm.trans e)
    · exact n2 (hb.2.1.symm.trans e)
    · exact n3 (hb.2.1.symm.trans e)
  rcases (hS k).1 hs with rfl | rfl | hk'
  · exact key _ _ hr.hdr (by decide) (by decide) (by decide)
  · obtain ⟨es, ck, hm, _⟩ := hr.map
    rw [hc] at hm
    cases hm
  · obtain ⟨x, hx, rfl⟩ := List.mem_map.1 hk'
    exact key _ _ (hr.blk x hx) (by decide) (by decide) (by decide)

section
variable {w : World} {l d : Nat} {ms : List Value} {sv : Value} {L : PLog}

theorem LogRep.cells (h : LogRep w l d ms sv L) : w.cell? ⟨l, 0, none⟩ = some (.pointer (some ⟨d, 0, none⟩)) ∧ w.cell? ⟨l, 1, none⟩ = some (.string (bs L.name)) ∧ w.cell? ⟨l, 2, none⟩ = some sv ∧ w.cell? ⟨l, 3, none⟩ = some (.int .i64 L.first) ∧ w.cell? ⟨l, 4, none⟩ = some (.int .i64 L.next) ∧ w.cell? ⟨l, 5, none⟩ = some (.int .i64 L.sure) ∧ w.cell? ⟨l, 6, none⟩ = some (.int .i64 L.e) :=
  ⟨h.hdr.cell rfl, h.hdr.cell rfl, h.hdr.cell rfl, h.hdr.cell rfl, h.hdr.cell rfl, h.hdr.cell rfl, h.hdr.cell rfl⟩

theorem LogRep.form (h : LogRep w l d ms sv L) : ∃ ad cap, sv = .slice ad L.segs.length cap ∧ ∀ (i : Nat) (x : PSeg) (v : Value), L.segs[i]? = some x → ms[i]? = some v → ∃ g, ad = some ⟨g, 0, none⟩ ∧ w.cell? ⟨g, i * 4, none⟩ = some (.int .i64 x.base) ∧ w.cell? ⟨g, i * 4 + 1, none⟩ = some (.int .i64 x.bytes) ∧ w.cell? ⟨g, i * 4 + 2, none⟩ = some (.int .i64 x.entries) ∧ w.cell? ⟨g, i * 4 + 3, none⟩ = some v := by
  rcases Joins.ownsRow_forms h.segs with ⟨e, hz⟩ | ⟨g, cap, rfl⟩
  · refine ⟨none, 0, by rw [e, hz], fun i x v hx _ => ?_⟩
    have := (List.getElem?_eq_some_iff.1 hx).1
    omega
  · refine ⟨_, cap, rfl, fun i x v hx hv => ⟨g, rfl, ?_⟩⟩
    have hi := (List.getElem?_eq_some_iff.1 hx).1
    have hat := segCells_at L.segs ms i x v hx hv
    refine ⟨?_, ?_, ?_, ?_⟩
    · have := hat 0; rw [Nat.add_zero] at this; rw [h.segs.cellAt _ (by omega), this]; rfl
    · rw [h.segs.cellAt _ (by omega), hat 1]; rfl
    · rw [h.segs.cellAt _ (by omega), hat 2]; rfl
    · rw [h.segs.cellAt _ (by omega), hat 3]; rfl
end

end Go.Proofs.YtnibpknhpjcamaaGreatDoor
