/-
  seglog: what Append needs: a further segment; the states between its parts. Conditions: texts that fit.
-/
import Derived.Test.YtnibpknhpjcamaaGreatDoorLogJ
set_option maxRecDepth 100000
namespace Go.Proofs.YtnibpknhpjcamaaGreatDoor
open Go.RowKit

/-- A log with one segment more. -/
theorem LogRep.push {w w3 : World} {l d : Nat} {ms : List Value} {sv : Value} {L : PLog} (h : LogRep w l d ms sv L) (hg : w.grownBy w3 sv.ownBlock) {gg cap2 : Nat} {b : Int}
    (hown : w3.ownsRow 0 99 4 (.slice (some ⟨gg, 0, none⟩) (L.segs.length + 1) cap2) (L.segs.length + 1) (segCells L.segs ms ++ [.int .i64 b, .int .i64 0, .int .i64 0, .slice none 0 0])) (hgg : sv.ownBlock = some gg ∨ w.heap.size ≤ gg) :
    LogRep (w3.setCell ⟨l, 2, none⟩ (.slice (some ⟨gg, 0, none⟩) (L.segs.length + 1) cap2)) l d (ms ++ [.slice none 0 0]) (.slice (some ⟨gg, 0, none⟩) (L.segs.length + 1) cap2) { L with segs := L.segs ++ [⟨b, 0, 0, []⟩] } := by
  have hlne : sv.ownBlock ≠ some l := by
    intro e
    obtain ⟨c, fz, hc⟩ := Lib.ownsRow_kind h.segs _ e
    have := h.hdr
    unfold Blk at this
    rw [this] at hc
    cases hc
  have hllt := h.hdr.lt
  have hglne : gg ≠ l := by
    rintro rfl
    rcases hgg with e | e
    · exact hlne e
    · omega
  have hB3 := h.hdr.grown hg hlne
  have hf : Fr (fun k => k = l) w3 (w3.setCell ⟨l, 2, none⟩ (.slice (some ⟨gg, 0, none⟩) (L.segs.length + 1) cap2)) := Fr.setCell (S := fun k => k = l) (p := ⟨l, 2, none⟩) (Fr.refl _ _) (.inl rfl) _
  have hmark : ∀ (i : Nat) (x : PSeg) (v : Value), L.segs[i]? = some x → ms[i]? = some v → ∀ k, v.ownBlock = some k → k ≠ l ∧ sv.ownBlock ≠ some k := by
    intro i x v hx hv k hk
    have hr := h.marks i x v hx hv
    constructor
    · rintro rfl
      obtain ⟨c, fz, hc⟩ := Lib.ownsRow_kind hr _ hk
      have := h.hdr
      unfold Blk at this
      rw [this] at hc
      cases hc
    · intro e
      obtain ⟨c, fz, hc⟩ := Lib.ownsRow_kind hr _ hk
      obtain ⟨c', fz', hc'⟩ := Lib.ownsRow_kind h.segs _ e
      rw [hc] at hc'
      cases hc'
  refine ⟨hB3.set 2 _, by simp [h.len], ?_, ?_, ?_⟩
  · have h1 := row_fr hown hf (fun k hk e => by
      simp only [Value.ownBlock, Option.some.injEq] at hk
      exact hglne (hk.trans e))
    have hl : (L.segs ++ [(⟨b, 0, 0, []⟩ : PSeg)]).length = L.segs.length + 1 := by simp
    have hc : segCells (L.segs ++ [(⟨b, 0, 0, []⟩ : PSeg)]) (ms ++ [.slice none 0 0]) = segCells L.segs ms ++ [.int .i64 b, .int .i64 0, .int .i64 0, .slice none 0 0] := by
      rw [segCells_app _ _ _ _ h.len]; rfl
    show World.ownsRow _ 0 _ 4 _ (L.segs ++ [(⟨b, 0, 0, []⟩ : PSeg)]).length (segCells (L.segs ++ [(⟨b, 0, 0, []⟩ : PSeg)]) _)
    rw [hl, hc]
    exact h1
  · intro i x v hx hv
    have hx : (L.segs ++ [(⟨b, 0, 0, []⟩ : PSeg)])[i]? = some x := hx
    by_cases hi : i < L.segs.length
    · rw [List.getElem?_append_left hi] at hx
      rw [List.getElem?_append_left (by rw [h.len]; exact hi)] at hv
      have hr := h.marks i x v hx hv
      have h3 : w3.ownsRow 0 54 3 v x.marks.length (markCells x.marks) := by
        refine hr.kept hg ?_
        cases hvb : v.ownBlock with
        | none => exact .inl rfl
        | some k => exact .inr (fun e => (hmark i x v hx hv k hvb).2 e.symm)
      exact row_fr h3 hf (fun k hk e => (hmark i x v hx hv k hk).1 e)
    · have hlen : i < (L.segs ++ [(⟨b, 0, 0, []⟩ : PSeg)]).length := (List.getElem?_eq_some_iff.1 hx).1
      have hi2 : i = L.segs.length := by simp at hlen; omega
      subst hi2
      rw [List.getElem?_append_right (Nat.le_refl _), Nat.sub_self] at hx
      rw [← h.len, List.getElem?_append_right (Nat.le_refl _), Nat.sub_self] at hv
      simp only [List.getElem?_cons_zero, Option.some.injEq] at hx hv
      subst hx hv
      exact World.ownsRow_nil _ _ _ _
  · intro i j a c k hi hj ha hc
    have key : ∀ (i : Nat) (a : Value), (ms ++ [Value.slice none 0 0])[i]? = some a → a.ownBlock = some k → ms[i]? = some a := by
      intro i a hi ha
      by_cases hlt : i < ms.length
      · rwa [List.getElem?_append_left hlt] at hi
      · rw [List.getElem?_append_right (by omega)] at hi
        have : i - ms.length = 0 := by have := (List.getElem?_eq_some_iff.1 hi).1; simp at this; omega
        rw [this] at hi
        simp only [List.getElem?_cons_zero, Option.some.injEq] at hi
        subst hi
        cases ha
    exact h.apart i j a c k (key i a hi ha) (key j c hj hc) ha hc

/-- The segment's block lies where segments lie. -/
def SegBlk (w : World) (b : Nat) : Prop := ∃ c fz, w.heap[b]? = some (.cells c 99 fz)

theorem SegBlk.notDisk {w : World} {b d : Nat} {SD : Nat → Prop} {D : PDisk} (h : SegBlk w b) (hd : DiskAt w d SD D) : ¬ SD b := by
  obtain ⟨c, fz, hc⟩ := h
  obtain ⟨m, fs, hr, hS⟩ := hd
  intro hs
  have key : ∀ T' c', Blk w b c' T' → T' ≠ 99 → False := by
    intro T' c' hb n1
    unfold Blk at hb
    rw [hc] at hb
    simp only [Option.some.injEq, Obj.cells.injEq] at hb
    exact n1 hb.2.1.symm
  rcases (hS b).1 hs with rfl | rfl | hk'
  · exact key _ _ hr.hdr (by decide)
  · obtain ⟨es, ck, hm, _⟩ := hr.map
    rw [hc] at hm
    cases hm
  · obtain ⟨x, hx, rfl⟩ := List.mem_map.1 hk'
    exact key _ _ (hr.blk x hx) (by decide)

/-- Ahead of the writing. -/
structure App2 (w : World) (l d : Nat) (S SD : Nat → Prop) (L : PLog) (D : PDisk) (N : Int) (its : List PItem) (acc : List Ent) (n : Int) (L1 : PLog) (D1 : PDisk) (S1 SD1 : Nat → Prop) (xb xo : Nat) (s : PSeg) (before : List PSeg) (ms : List Value) (sv : Value) (wx : World) : Prop where
  disk : DiskAt wx d SD1 D1
  dwf : D1.WF N
  lwf : L1.WF
  e : L1.e = 0
  fr : Fr (fun k => S k ∨ SD k) w wx
  foot : ∀ k, S1 k → S k ∨ w.heap.size ≤ k
  footD : ∀ k, SD1 k → SD k ∨ w.heap.size ≤ k
  app : L.append D its = L1.put D1 s before acc n
  base : 0 ≤ s.base ∧ s.base ≤ 1099511627776
  cell : wx.cell? ⟨xb, xo, none⟩ = some (.int .i64 s.base)
  blk : SegBlk wx xb
  rep : LogRep wx l d ms sv L1
  footL : ∀ k, S1 k ↔ footL l ms sv k
  way : (∃ cap, sv = .slice (some ⟨xb, 0, none⟩) L1.segs.length cap ∧ L1.segs = before ++ [s] ∧ s.bytes < 1024 ∧ xo = before.length * 4) ∨
    (before = L1.segs ∧ L1.act = none ∧ s = ⟨L1.next, 0, 0, []⟩ ∧ xo = 0 ∧ Blk wx xb #[.int .i64 L1.next, .int .i64 0, .int .i64 0, .slice none 0 0] 99 ∧ ¬ S1 xb)

/-- Between the writing and the notes. -/
structure App4 (w : World) (l d : Nat) (S SD : Nat → Prop) (L : PLog) (D : PDisk) (its : List PItem) (acc : List Ent) (n : Int) (L4 : PLog) (D4 : PDisk) (S4 SD4 : Nat → Prop) (sg cap : Nat) (s : PSeg) (a : List PSeg) (ma : List Value) (v : Value) (wx : World) : Prop where
  disk : DiskAt wx d SD4 D4
  fr : Fr (fun k => S k ∨ SD k) w wx
  foot : ∀ k, S4 k → S k ∨ w.heap.size ≤ k
  footD : ∀ k, SD4 k → SD k ∨ w.heap.size ≤ k
  app : L.append D its = ({ L4 with segs := a ++ [s.tookAll acc], next := n }, D4, headBase acc, 0)
  rep : LogRep wx l d (ma ++ [v]) (.slice (some ⟨sg, 0, none⟩) (a.length + 1) cap) L4
  footL : ∀ k, S4 k ↔ Go.Proofs.YtnibpknhpjcamaaGreatDoor.footL l (ma ++ [v]) (.slice (some ⟨sg, 0, none⟩) (a.length + 1) cap) k
  segs : L4.segs = a ++ [s]
  len : ma.length = a.length
  count : a.length ≤ 1000000
  bytes : 0 ≤ s.bytes ∧ s.bytes ≤ 1024
  entries : 0 ≤ s.entries ∧ s.entries ≤ 1000000000
  marks : s.marks.length ≤ 1000000 ∧ ∀ y ∈ s.marks, 0 ≤ y.pos ∧ y.pos ≤ s.bytes

section
variable {w : World} {l d : Nat} {S SD : Nat → Prop} {L : PLog} {D : PDisk} {N : Int} {its : List PItem} {acc : List Ent} {n : Int} {L1 : PLog} {D1 D2 : PDisk} {S1 SD1 : Nat → Prop} {xb xo : Nat} {s : PSeg} {before : List PSeg} {ms : List Value} {sv : Value} {we wx : World}

theorem App2.at (h : App2 w l d S SD L D N its acc n L1 D1 S1 SD1 xb xo s before ms sv we) : LogAt we l d S1 L1 := ⟨ms, sv, h.rep, h.footL⟩

/-- Behind the disk's work. -/
theorem App2.after (h : App2 w l d S SD L D N its acc n L1 D1 S1 SD1 xb xo s before ms sv we) (hto : DiskTo we wx d SD1 D2) :
    ∃ SD2, DiskAt wx d SD2 D2 ∧ LogRep wx l d ms sv L1 ∧ Fr (fun k => S k ∨ SD k) w wx ∧ (∀ k, SD2 k → SD k ∨ w.heap.size ≤ k) ∧ (∀ k, SD2 k → ¬ S1 k) ∧ Fr SD1 we wx := by
  obtain ⟨SD2, hd, hf, hs⟩ := hto
  have hap : ∀ k, S1 k → ¬ SD1 k := fun k hk => LogAt.apart h.at h.disk hk
  have hsz := h.fr.size
  refine ⟨SD2, hd, h.rep.fr hf (fun k hk => hap k ((h.footL k).2 hk)), ⟨hf.os.trans h.fr.os, hf.tape.trans h.fr.tape, hf.output.trans h.fr.output, Nat.le_trans h.fr.size hf.size, fun k hk hn => ?_⟩, fun k hk => ?_, fun k hk hS => ?_, hf⟩
  · refine (hf.block k (by omega) (fun e => ?_)).trans (h.fr.block k hk hn)
    exact (h.footD k e).elim (fun e => hn (.inr e)) (by omega)
  · exact (hs k hk).elim (h.footD k) (fun e => .inr (by omega))
  · rcases hs k hk with e | e
    · exact hap k hS e
    · have := LogAt.lt h.at hS; omega

theorem App2.to (h : App2 w l d S SD L D N its acc n L1 D1 S1 SD1 xb xo s before ms sv we) (hto : DiskTo we wx d SD1 D2) : LogTo w wx l d S SD L1 D2 := by
  obtain ⟨SD2, a1, a2, a3, a4, _, _⟩ := h.after hto
  exact ⟨S1, SD2, ⟨ms, sv, a2, h.footL⟩, a1, a3, h.foot, a4⟩

/-- The error is noted. -/
theorem App2.noted (h : App2 w l d S SD L D N its acc n L1 D1 S1 SD1 xb xo s before ms sv we) (hto : DiskTo we wx d SD1 D2) (e : Int) :
    LogRep (wx.setCell ⟨l, 6, none⟩ (.int .i64 e)) l d ms sv { L1 with e := e } ∧ LogTo w (wx.setCell ⟨l, 6, none⟩ (.int .i64 e)) l d S SD { L1 with e := e } D2 ∧
      ∃ SD2, DiskAt (wx.setCell ⟨l, 6, none⟩ (.int .i64 e)) d SD2 D2 ∧ Fr (fun k => S k ∨ SD k) w (wx.setCell ⟨l, 6, none⟩ (.int .i64 e)) ∧ (∀ k, SD2 k → SD k ∨ w.heap.size ≤ k) ∧ (∀ k, SD2 k → ¬ S1 k) ∧ Fr (fun k => SD1 k ∨ k = l) we (wx.setCell ⟨l, 6, none⟩ (.int .i64 e)) := by
  obtain ⟨SD2, a1, a2, a3, a4, a5, a6⟩ := h.after hto
  have hb4 : Blk (wx.setCell ⟨l, 6, none⟩ (.int .i64 e)) l #[ptr d, .string (bs L1.name), sv, .int .i64 L1.first, .int .i64 L1.next, .int .i64 L1.sure, .int .i64 e] 97 := a2.hdr.set 6 (.int .i64 e)
  have hf4 : Fr (fun k => k = l) wx (wx.setCell ⟨l, 6, none⟩ (.int .i64 e)) := Fr.setCell (S := fun k => k = l) (p := ⟨l, 6, none⟩) (Fr.refl _ _) (.inl rfl) _
  have hS1l : S1 l := (h.footL l).2 (.inl rfl)
  have hr := a2.set hf4 hb4
  have hd : DiskAt (wx.setCell ⟨l, 6, none⟩ (.int .i64 e)) d SD2 D2 := a1.fr hf4 (fun k hk e => a5 k hk (e ▸ hS1l))
  have hf : Fr (fun k => S k ∨ SD k) w (wx.setCell ⟨l, 6, none⟩ (.int .i64 e)) := Fr.setCell (p := ⟨l, 6, none⟩) a3 ((h.foot l hS1l).imp .inl id) _
  refine ⟨hr, ⟨S1, SD2, ⟨ms, sv, hr, h.footL⟩, hd, hf, h.foot, a4⟩, SD2, hd, hf, a4, a5, ?_⟩
  exact Fr.setCell (p := ⟨l, 6, none⟩) (a6.mono fun k _ e => .inl e) (.inl (.inr rfl)) _
end

theorem PLog.act_of {L : PLog} {a : List PSeg} {x : PSeg} (h : L.segs = a ++ [x]) (hx : x.bytes < 1024) : L.act = some x := by
  unfold PLog.act
  rw [h]
  simp [hx]

theorem entCells_at : ∀ (l : List Ent) (i : Nat) (x : Ent), l[i]? = some x → (entCells l)[i * 3]? = some (.int .i64 x.base) ∧ (entCells l)[i * 3 + 1]? = some (.int .i64 x.n) ∧ (entCells l)[i * 3 + 2]? = some (.string (bs x.text))
  | [], i, x, h => by simp at h
  | y :: l, 0, x, h => by
    simp only [List.getElem?_cons_zero, Option.some.injEq] at h
    subst h
    exact ⟨rfl, rfl, rfl⟩
  | y :: l, i + 1, x, h => by
    simp only [List.getElem?_cons_succ] at h
    obtain ⟨h1, h2, h3⟩ := entCells_at l i x h
    have e1 : (i + 1) * 3 = i * 3 + 3 := by omega
    rw [e1]
    exact ⟨h1, h2, h3⟩

end Go.Proofs.YtnibpknhpjcamaaGreatDoor
