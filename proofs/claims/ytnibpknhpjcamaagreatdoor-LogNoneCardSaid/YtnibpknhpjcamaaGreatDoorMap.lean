/-
  A map with texts as keys, said by its pairs in whatever order: look-up, a new key, the length. No conditions.
-/
import Derived.Test.YtnibpknhpjcamaaGreatDoorHeap
import Derived.Test.YtnibpknhpjcamaaGreatDoorStr
import Derived.MapKept
import Derived.RangeFuncRecord
namespace Go.Proofs.YtnibpknhpjcamaaGreatDoor
open Go.RowKit Go.MapKept

/-- Block m is a map that holds just these pairs. -/
def MapAt (w : World) (m : Nat) (kvs : List (ByteArray × Value)) : Prop :=
  ∃ es clock, w.heap[m]? = some (.map es clock) ∧ Stamped es clock ∧ (es.toList.map fun e => (e.key, e.val)).Perm (kvs.map fun p => (Value.string p.1, p.2))

theorem MapAt.lt {w : World} {m : Nat} {kvs : List (ByteArray × Value)} (h : MapAt w m kvs) : m < w.heap.size := by
  obtain ⟨es, c, hb, _⟩ := h
  exact (Array.getElem?_eq_some_iff.1 hb).1

theorem MapAt.fr {S : Nat → Prop} {w w' : World} {m : Nat} {kvs : List (ByteArray × Value)} (h : MapAt w m kvs) (hf : Fr S w w') (hn : ¬ S m) : MapAt w' m kvs := by
  have hlt := h.lt
  obtain ⟨es, c, hb, r⟩ := h
  exact ⟨es, c, (hf.block m hlt hn).trans hb, r⟩

theorem MapAt.not_cells {w : World} {m b : Nat} {kvs : List (ByteArray × Value)} {c : Array Value} {T : TypeId} (h : MapAt w m kvs) (hb : Blk w b c T) : b ≠ m := by
  rintro rfl
  obtain ⟨es, c, hm, _⟩ := h
  unfold Blk at hb
  rw [hm] at hb
  cases hb

theorem MapAt.keys {w : World} {m : Nat} {kvs : List (ByteArray × Value)} (h : MapAt w m kvs) : (kvs.map (·.1)).Nodup := by
  obtain ⟨es, c, _, hs, hp⟩ := h
  have h1 := hs.2.2
  have h2 := hp.map Prod.fst
  simp only [List.map_map] at h2
  have h3 : (es.toList.map (·.key)).Nodup ↔ _ := h2.nodup_iff
  have h4 := h3.1 h1
  have e : (Prod.fst ∘ fun p : ByteArray × Value => (Value.string p.1, p.2)) = (fun s => Value.string s) ∘ (·.1) := rfl
  rw [e, ← List.map_map] at h4
  exact (List.pairwise_map.1 h4).imp fun hne e => hne (by rw [e])

theorem isKeys {es : Array MapEntry} {kvs : List (ByteArray × Value)} (hp : (es.toList.map fun e => (e.key, e.val)).Perm (kvs.map fun p => (Value.string p.1, p.2))) : ∀ x ∈ es.toList, IsKey .string x.key := by
  intro x hx
  have : (x.key, x.val) ∈ kvs.map fun p => (Value.string p.1, p.2) := hp.mem_iff.1 (List.mem_map.2 ⟨x, hx, rfl⟩)
  obtain ⟨p, _, e⟩ := List.mem_map.1 this
  simp only [Prod.mk.injEq] at e
  rw [← e.1]; trivial

section
variable {P : Program} {w : World} {T K E : TypeId} {m : Nat} {kvs : List (ByteArray × Value)}

theorem MapAt.look_some (h : MapAt w m kvs) (hT : P.underlying T = some (.map K E)) (hK : P.underlying K = some .string) {k : ByteArray} {v : Value} (hm : (k, v) ∈ kvs) :
    (Instr.lookup T (.map (some m)) (.string k) false).run P w = .ok v w := by
  have hkn := h.keys
  obtain ⟨es, c, hb, hs, hp⟩ := h
  rcases findNow_spec (d := .string) (k := .string k) trivial es.toList 0 (isKeys hp) with ⟨h1, h2⟩ | ⟨j, e, h1, h2, h3⟩
  · exfalso
    have : (Value.string k, v) ∈ es.toList.map fun e => (e.key, e.val) := hp.mem_iff.2 (List.mem_map.2 ⟨_, hm, rfl⟩)
    obtain ⟨x, hx, e⟩ := List.mem_map.1 this
    simp only [Prod.mk.injEq] at e
    exact h2 x hx e.1
  · have hv : e.val = v := by
      have he : e ∈ es.toList := List.mem_of_getElem? h2
      have : (e.key, e.val) ∈ kvs.map fun p => (Value.string p.1, p.2) := hp.mem_iff.1 (List.mem_map.2 ⟨e, he, rfl⟩)
      obtain ⟨p, hpm, e1⟩ := List.mem_map.1 this
      rw [h3] at e1
      simp only [Prod.mk.injEq, Value.string.injEq] at e1
      rw [← e1.2]
      obtain ⟨a, b⟩ := p
      simp only at e1
      obtain ⟨rfl, _⟩ := e1
      have hpw : kvs.Pairwise (fun x y => x.1 ≠ y.1) := by simpa [List.Nodup, List.pairwise_map] using hkn
      rcases List.mem_iff_getElem.1 hpm with ⟨i1, hi1, e1'⟩
      rcases List.mem_iff_getElem.1 hm with ⟨i2, hi2, e2'⟩
      have hi : i1 = i2 := by
        rcases Nat.lt_trichotomy i1 i2 with hlt | heq | hlt
        · have := List.pairwise_iff_getElem.1 hpw i1 i2 hi1 hi2 hlt
          rw [e1', e2'] at this
          exact absurd rfl this
        · exact heq
        · have := List.pairwise_iff_getElem.1 hpw i2 i1 hi2 hi1 hlt
          rw [e1', e2'] at this
          exact absurd rfl this
      subst hi
      rw [e1'] at e2'
      simp only [Prod.mk.injEq] at e2'
      exact e2'.2
    simp [Instr.lookup, run_underlying hT, MapKept.run_getObj_map hb, run_checkKey hK (show IsKey .string (.string k) from trivial), run_findKey hK h1, Result.andThen, hv]

theorem MapAt.look_none (h : MapAt w m kvs) (hT : P.underlying T = some (.map K E)) (hK : P.underlying K = some .string) {k : ByteArray} {z : Value} (hz : (zeroValue E).run P w = .ok z w) (hm : ∀ p ∈ kvs, p.1 ≠ k) :
    (Instr.lookup T (.map (some m)) (.string k) false).run P w = .ok z w := by
  obtain ⟨es, c, hb, hs, hp⟩ := h
  rcases findNow_spec (d := .string) (k := .string k) trivial es.toList 0 (isKeys hp) with ⟨h1, h2⟩ | ⟨j, e, h1, h2, h3⟩
  · simp [Instr.lookup, run_underlying hT, MapKept.run_getObj_map hb, run_checkKey hK (show IsKey .string (.string k) from trivial), run_findKey hK h1, Result.andThen, hz]
  · exfalso
    have he : e ∈ es.toList := List.mem_of_getElem? h2
    have : (e.key, e.val) ∈ kvs.map fun p => (Value.string p.1, p.2) := hp.mem_iff.1 (List.mem_map.2 ⟨e, he, rfl⟩)
    obtain ⟨p, hpm, e1⟩ := List.mem_map.1 this
    rw [h3] at e1
    simp only [Prod.mk.injEq, Value.string.injEq] at e1
    exact hm p hpm e1.1

theorem MapAt.put_new (h : MapAt w m kvs) (hT : P.underlying T = some (.map K E)) (hK : P.underlying K = some .string) {k : ByteArray} (v : Value) (hm : ∀ p ∈ kvs, p.1 ≠ k) :
    ∃ o, (Instr.mapUpdate T (.map (some m)) (.string k) v).run P w = .ok () (w.putObj m o) ∧ MapAt (w.putObj m o) m ((k, v) :: kvs) := by
  have hlt := h.lt
  obtain ⟨es, c, hb, hs, hp⟩ := h
  rcases findNow_spec (d := .string) (k := .string k) trivial es.toList 0 (isKeys hp) with ⟨h1, h2⟩ | ⟨j, e, h1, h2, h3⟩
  · refine ⟨.map (es.push { key := .string k, val := v, born := c }) (c + 1), ?_, ?_⟩
    · simp [Instr.mapUpdate, run_underlying hT, MapKept.run_getObj_map hb, run_checkKey hK (show IsKey .string (.string k) from trivial), run_findKey hK h1, MapKept.run_setObj_map _ hb, Result.andThen, World.putObj]
    · refine ⟨_, _, World.putObj_heap_same hlt, stamped_push hs h2, ?_⟩
      simp only [Array.toList_push, List.map_append, List.map_cons, List.map_nil]
      exact (List.perm_append_comm.trans (List.Perm.cons _ hp))
  · exfalso
    have he : e ∈ es.toList := List.mem_of_getElem? h2
    have : (e.key, e.val) ∈ kvs.map fun p => (Value.string p.1, p.2) := hp.mem_iff.1 (List.mem_map.2 ⟨e, he, rfl⟩)
    obtain ⟨p, hpm, e1⟩ := List.mem_map.1 this
    rw [h3] at e1
    simp only [Prod.mk.injEq, Value.string.injEq] at e1
    exact hm p hpm e1.1

theorem MapAt.made (w : World) : MapAt (w.alloc (.map #[] 0)) w.heap.size [] :=
  ⟨#[], 0, (heap_alloc w _).1, stamped_empty 0, by simp⟩

theorem MapAt.len (h : MapAt w m kvs) (hT : P.underlying T = some (.map K E)) (ty : TypeId) : (Builtin.len_ #[T] ty #[.map (some m)]).run P w = .ok (goInt kvs.length) w := by
  obtain ⟨es, c, hb, hs, hp⟩ := h
  have hl : es.size = kvs.length := by have := hp.length_eq; simpa using this
  simp [Builtin.len_, run_underlying hT, MapKept.run_getObj_map hb, Result.andThen, hl]
end

end Go.Proofs.YtnibpknhpjcamaaGreatDoor
