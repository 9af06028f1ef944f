/-
  seglog: active, First, Next, Sure, Broken, named, from: the walks. Conditions: numbers that fit.
-/
import Derived.Test.YtnibpknhpjcamaaGreatDoorLogR
set_option maxRecDepth 100000
namespace Go.Proofs.YtnibpknhpjcamaaGreatDoor
open Go.RowKit

/-- The segment that is written to. -/
def PLog.act (L : PLog) : Option PSeg := match L.segs.getLast? with | none => none | some x => if x.bytes < 1024 then some x else none

set_option maxHeartbeats 1000000 in
theorem active_some {w : World} {l d : Nat} {ms : List Value} {L : PLog} {g cap : Nat} {a : List PSeg} {x : PSeg} (h : LogRep w l d ms (.slice (some ⟨g, 0, none⟩) L.segs.length cap) L) (hs : L.segs = a ++ [x]) (hx : x.bytes < 1024) (hlen : L.segs.length ≤ 1000000) :
    Calls Tryz.prog 58 #[ptr l] w fun e w' => e = .returned (.pointer (some ⟨g, a.length * 4, none⟩)) ∧ w = w' := by
  obtain ⟨c0, c1, c2, c3, c4, c5, c6⟩ := h.cells
  have hn : L.segs.length = a.length + 1 := by rw [hs]; simp
  have hl := h.len
  obtain ⟨v, hv⟩ : ∃ v, ms[a.length]? = some v := ⟨_, List.getElem?_eq_getElem (by omega)⟩
  obtain ⟨ad, cap', he, hat⟩ := h.form
  injection he with e1 _ _
  subst e1
  obtain ⟨g', hg, b0, b1, b2, b3⟩ := hat a.length x v (by rw [hs]; simp) hv
  simp only [Option.some.injEq, Addr.mk.injEq] at hg
  obtain ⟨rfl, _⟩ := hg
  rw [hn] at c2 hlen
  have H := hid h
  have HS := hid hs
  clear h hs hn hl hat hv
  unfold ptr
  go_enter Tryz.func58, Tryz.ntmps58
  go_wp2_with fail
  go_ret
  exact ⟨rfl, rfl⟩

set_option maxHeartbeats 1000000 in
theorem active_none {w : World} {l d : Nat} {ms : List Value} {sv : Value} {L : PLog} (h : LogRep w l d ms sv L) (hx : L.act = none) (hlen : L.segs.length ≤ 1000000) :
    Calls Tryz.prog 58 #[ptr l] w fun e w' => e = .returned (.pointer none) ∧ w = w' := by
  obtain ⟨c0, c1, c2, c3, c4, c5, c6⟩ := h.cells
  obtain ⟨ad, cap, rfl, hat⟩ := h.form
  have hl := h.len
  cases hs : L.segs.getLast? with
  | none =>
    have hn : L.segs.length = 0 := by have : L.segs = [] := by simpa using hs
                                      rw [this]; rfl
    rw [hn] at c2
    clear h hs hat hx hn hl hlen
    unfold ptr
    go_enter Tryz.func58, Tryz.ntmps58
    go_wp2_with fail
    go_ret
    exact ⟨rfl, rfl⟩
  | some x =>
    obtain ⟨a, ha⟩ : ∃ a, L.segs = a ++ [x] := by rw [List.getLast?_eq_some_iff] at hs; exact hs
    have hn : L.segs.length = a.length + 1 := by rw [ha]; simp
    have hb : ¬ x.bytes < 1024 := by
      unfold PLog.act at hx
      rw [hs] at hx
      simpa using hx
    obtain ⟨v, hv⟩ : ∃ v, ms[a.length]? = some v := ⟨_, List.getElem?_eq_getElem (by omega)⟩
    obtain ⟨g', rfl, b0, b1, b2, b3⟩ := hat a.length x v (by rw [ha]; simp) hv
    rw [hn] at c2 hlen
    clear h hs ha hat hx hn hl hv
    unfold ptr
    go_enter Tryz.func58, Tryz.ntmps58
    go_wp2_with fail
    go_ret
    exact ⟨rfl, rfl⟩

section
variable {w : World} {l d : Nat} {S : Nat → Prop} {L : PLog}

set_option maxHeartbeats 400000 in
theorem first_any (h : LogAt w l d S L) : Calls Tryz.prog 15 #[ptr l] w fun e w' => e = .returned (.int .i64 L.first) ∧ w = w' := by
  obtain ⟨ms, sv, h, _⟩ := h
  obtain ⟨c0, c1, c2, c3, c4, c5, c6⟩ := h.cells
  unfold ptr
  go_enter Tryz.func15, Tryz.ntmps15
  go_wp2_with fail
  go_ret
  exact ⟨rfl, rfl⟩

set_option maxHeartbeats 400000 in
theorem next_any (h : LogAt w l d S L) : Calls Tryz.prog 16 #[ptr l] w fun e w' => e = .returned (.int .i64 L.next) ∧ w = w' := by
  obtain ⟨ms, sv, h, _⟩ := h
  obtain ⟨c0, c1, c2, c3, c4, c5, c6⟩ := h.cells
  unfold ptr
  go_enter Tryz.func16, Tryz.ntmps16
  go_wp2_with fail
  go_ret
  exact ⟨rfl, rfl⟩

set_option maxHeartbeats 400000 in
theorem sure_any (h : LogAt w l d S L) : Calls Tryz.prog 29 #[ptr l] w fun e w' => e = .returned (.int .i64 L.sure) ∧ w = w' := by
  obtain ⟨ms, sv, h, _⟩ := h
  obtain ⟨c0, c1, c2, c3, c4, c5, c6⟩ := h.cells
  unfold ptr
  go_enter Tryz.func29, Tryz.ntmps29
  go_wp2_with fail
  go_ret
  exact ⟨rfl, rfl⟩

set_option maxHeartbeats 400000 in
theorem broken_any (h : LogAt w l d S L) : Calls Tryz.prog 27 #[ptr l] w fun e w' => e = .returned (.int .i64 L.e) ∧ w = w' := by
  obtain ⟨ms, sv, h, _⟩ := h
  obtain ⟨c0, c1, c2, c3, c4, c5, c6⟩ := h.cells
  unfold ptr
  go_enter Tryz.func27, Tryz.ntmps27
  go_wp2_with fail
  go_ret
  exact ⟨rfl, rfl⟩
end

section
variable {w : World}
set_option maxHeartbeats 400000 in
theorem first_nil : Calls Tryz.prog 15 #[.pointer none] w fun e w' => e = .returned (.int .i64 0) ∧ w = w' := by
  go_enter Tryz.func15, Tryz.ntmps15
  go_wp2_with fail
  go_ret
  exact ⟨rfl, rfl⟩
set_option maxHeartbeats 400000 in
theorem next_nil : Calls Tryz.prog 16 #[.pointer none] w fun e w' => e = .returned (.int .i64 0) ∧ w = w' := by
  go_enter Tryz.func16, Tryz.ntmps16
  go_wp2_with fail
  go_ret
  exact ⟨rfl, rfl⟩
set_option maxHeartbeats 400000 in
theorem sure_nil : Calls Tryz.prog 29 #[.pointer none] w fun e w' => e = .returned (.int .i64 0) ∧ w = w' := by
  go_enter Tryz.func29, Tryz.ntmps29
  go_wp2_with fail
  go_ret
  exact ⟨rfl, rfl⟩
set_option maxHeartbeats 400000 in
theorem broken_nil : Calls Tryz.prog 27 #[.pointer none] w fun e w' => e = .returned (.int .i64 1) ∧ w = w' := by
  go_enter Tryz.func27, Tryz.ntmps27
  go_wp2_with fail
  go_ret
  exact ⟨rfl, rfl⟩
set_option maxHeartbeats 400000 in
theorem segments_nil : Calls Tryz.prog 18 #[.pointer none] w fun e w' => e = .returned (.slice none 0 0) ∧ w = w' := by
  go_enter Tryz.func18, Tryz.ntmps18
  go_wp2_with fail
  go_ret
  exact ⟨rfl, rfl⟩
set_option maxHeartbeats 400000 in
theorem marks_nil : Calls Tryz.prog 23 #[.pointer none] w fun e w' => e = .returned (.slice none 0 0) ∧ w = w' := by
  go_enter Tryz.func23, Tryz.ntmps23
  go_wp2_with fail
  go_ret
  exact ⟨rfl, rfl⟩
set_option maxHeartbeats 400000 in
theorem sync_nil : Calls Tryz.prog 28 #[.pointer none] w fun e w' => e = .returned (.int .i64 1) ∧ w = w' := by
  go_enter Tryz.func28, Tryz.ntmps28
  go_wp2_with fail
  go_ret
  exact ⟨rfl, rfl⟩
set_option maxHeartbeats 400000 in
theorem append_nil (v : Value) : Calls Tryz.prog 26 #[.pointer none, v] w fun e w' => e = .returned (.tuple #[.int .i64 0, .int .i64 1]) ∧ w = w' := by
  go_enter Tryz.func26, Tryz.ntmps26
  go_wp2_with fail
  go_ret2
  exact ⟨rfl, rfl⟩
set_option maxHeartbeats 400000 in
theorem open_nil (s : ByteArray) : Calls Tryz.prog 34 #[.pointer none, .string s] w fun e w' => e = .returned (.tuple #[.pointer none, .int .i64 1]) ∧ w = w' := by
  go_enter Tryz.func34, Tryz.ntmps34
  go_wp2_with fail
  go_ret2
  exact ⟨rfl, rfl⟩
end

end Go.Proofs.YtnibpknhpjcamaaGreatDoor
