/-
  seglog: what Append needs: the frames as one text; a segment's notes. Conditions: texts that fit.
-/
import Derived.Test.YtnibpknhpjcamaaGreatDoorLogA0
import Derived.Test.YtnibpknhpjcamaaGreatDoorLogT
set_option maxRecDepth 100000
namespace Go.Proofs.YtnibpknhpjcamaaGreatDoor
open Go.RowKit

theorem DiskTo.after {w w1 w2 : World} {d : Nat} {S : Nat → Prop} {D' : PDisk} (hb : Below w.heap.size w w1) (h : DiskTo w1 w2 d S D') : DiskTo w w2 d S D' := by
  obtain ⟨S', a, f, s⟩ := h
  have hsz := hb.size
  exact ⟨S', a, (Fr.of_below hb).trans f, fun k hk => (s k hk).imp id (by omega)⟩

theorem join_flat (l : List (List UInt8)) : Lib.join l [] = l.flatten := by
  cases l with
  | nil => rfl
  | cons x r =>
    rw [Lib.join_cons]
    have : Lib.joinTail [] r = r.flatten := by unfold Lib.joinTail; simp
    rw [this]; rfl

theorem join_any {w : World} {B : Nat} {v : Value} (acc : List Ent) (k : Nat) (hk : acc.length = k) (hpos : 0 < k) (row : w.ownsRow B 9 1 v k (layCells acc)) (hok : ∀ e ∈ acc, e.ok) (hc : k ≤ 64) :
    Calls Tryz.prog 60 #[v, .string ⟨#[]⟩] w fun e w' => e = .returned (.string (bs (layText acc))) ∧ Below w.heap.size w w' := by
  obtain ⟨g, cap, rfl⟩ := Joins.ownsRow_form row hpos
  have hlt := row.lt g rfl
  have hcap : k ≤ cap := by
    rcases row.2 with ⟨h, _⟩ | ⟨g2, cap2, cur, h, _, _, h2, _⟩
    · cases h
    · injection h with _ _ h3; omega
  have hl := layText_len acc hok
  have e1 : ((acc.map fun e => bs e.lay).map (·.data.toList)) = acc.map Ent.lay := by rw [List.map_map]; exact List.map_congr_left fun e _ => tl_bs _
  have hflat : (acc.map Ent.lay).flatten = layText acc := rfl
  have h := Tryz.strings_Join g 0 cap (acc.map fun e => bs e.lay) ⟨#[]⟩ w (by
    intro j x hx
    have hj := (List.getElem?_eq_some_iff.1 hx).1
    rw [List.length_map] at hj
    rw [Nat.zero_add, row.cellAt j (by omega)]
    unfold layCells
    rw [List.getElem?_map] at hx ⊢
    cases he : acc[j]? with
    | none => rw [he] at hx; cases hx
    | some e => rw [he] at hx; simp only [Option.map_some, Option.some.injEq] at hx ⊢; rw [hx]) hlt.2 (by simp; omega) (by simp; omega) (by
      rw [e1]
      show (Lib.join _ []).length ≤ _
      rw [join_flat, hflat]; omega)
  rw [e1] at h
  rw [List.length_map, hk] at h
  have e2 : (Lib.join (acc.map Ent.lay) (⟨#[]⟩ : ByteArray).data.toList) = layText acc := join_flat _
  rw [e2] at h
  exact h

/-- A row of another type lies in no block of a disk. -/
theorem row_disk {w : World} {d : Nat} {SD : Nat → Prop} {D : PDisk} {base : Nat} {e : TypeId} {size : Nat} {v : Value} {n : Nat} {xs : List Value} (h : w.ownsRow base e size v n xs) (hd : DiskAt w d SD D) (h1 : e ≠ 110) (h2 : e ≠ 112) : ∀ k, v.ownBlock = some k → ¬ SD k := by
  intro k hk
  rcases h.2 with ⟨h3, _⟩ | ⟨g, cap, cur, hv, _, hh, _⟩
  · rw [h3] at hk; cases hk
  · rw [hv] at hk
    simp only [Value.ownBlock, Option.some.injEq] at hk
    subst hk
    exact hd.other hh h1 h2

theorem row_log {w : World} {l d : Nat} {S : Nat → Prop} {L : PLog} {base : Nat} {e : TypeId} {size : Nat} {v : Value} {n : Nat} {xs : List Value} (h : w.ownsRow base e size v n xs) (hl : LogAt w l d S L) (h1 : e ≠ 97) (h2 : e ≠ 99) (h3 : e ≠ 54) : ∀ k, v.ownBlock = some k → ¬ S k := by
  intro k hk
  obtain ⟨c, fz, hc⟩ := Lib.ownsRow_kind h k hk
  exact hl.other hc h1 h2 h3

/-- A segment's cells in a block of segments; the other cells are as they were. -/
structure SegAt (w : World) (sg o : Nat) (cs0 : Array Value) (x : PSeg) (mv : Value) (cs : Array Value) : Prop where
  blk : Blk w sg cs 99
  size : cs.size = cs0.size
  off : ∀ j, j < o ∨ o + 4 ≤ j → cs[j]? = cs0[j]?
  c0 : cs[o]? = some (.int .i64 x.base)
  c1 : cs[o + 1]? = some (.int .i64 x.bytes)
  c2 : cs[o + 2]? = some (.int .i64 x.entries)
  c3 : cs[o + 3]? = some mv
  marks : w.ownsRow 0 54 3 mv x.marks.length (markCells x.marks)

theorem SegAt.fr {S : Nat → Prop} {w w' : World} {sg o : Nat} {cs0 cs : Array Value} {x : PSeg} {mv : Value} (h : SegAt w sg o cs0 x mv cs) (hf : Fr S w w') (h1 : ¬ S sg) (h2 : ∀ k, mv.ownBlock = some k → ¬ S k) : SegAt w' sg o cs0 x mv cs :=
  ⟨h.blk.fr hf h1, h.size, h.off, h.c0, h.c1, h.c2, h.c3, row_fr h.marks hf h2⟩

/-- took, at a segment in a block. -/
theorem took_seg {w : World} {sg o : Nat} {cs0 cs : Array Value} {x : PSeg} {mv : Value} (h : SegAt w sg o cs0 x mv cs) (b m n : Int) (tx : ByteArray) (hs : x.marks.length ≤ 1048576) (hb0 : 0 ≤ x.bytes) (hb1 : x.bytes + n ≤ 1099511627776) (hn0 : 0 ≤ n) (he0 : 0 ≤ x.entries) (he1 : x.entries ≤ 1099511627776)
    (hp : ∀ y ∈ x.marks, 0 ≤ y.pos ∧ y.pos ≤ 1099511627776) :
    Calls Tryz.prog 61 #[.pointer (some ⟨sg, o, none⟩), .agg #[.int .i64 b, .int .i64 m, .string tx], .int .i64 n] w fun r w' => r = .returned (.tuple #[]) ∧ ∃ mv' cs', SegAt w' sg o cs0 (x.took b n) mv' cs' ∧
      (mv'.ownBlock = mv.ownBlock ∨ ∃ k, mv'.ownBlock = some k ∧ w.heap.size ≤ k) ∧ Fr (fun k => k = sg ∨ mv.ownBlock = some k) w w' := by
  refine (took_any sg o cs x mv b m n tx w h.blk h.c0 h.c1 h.c2 h.c3 h.marks hs hb0 hb1 hn0 he0 he1 hp).mono ?_
  rintro r w' ⟨mv', hr, hB, hm, hown, hf⟩
  have hlt := (Array.getElem?_eq_some_iff.1 h.c3).1
  refine ⟨hr, mv', _, ⟨hB, ?_, ?_, ?_, ?_, ?_, ?_, hm⟩, hown, hf⟩
  · unfold segSet; simp [h.size]
  · intro j hj
    unfold segSet
    rw [Array.getElem?_setIfInBounds_ne (by omega), Array.getElem?_setIfInBounds_ne (by omega), Array.getElem?_setIfInBounds_ne (by omega)]
    exact h.off j hj
  · unfold segSet
    rw [Array.getElem?_setIfInBounds_ne (by omega), Array.getElem?_setIfInBounds_ne (by omega), Array.getElem?_setIfInBounds_ne (by omega)]
    exact h.c0
  · unfold segSet
    rw [Array.getElem?_setIfInBounds_ne (by omega), Array.getElem?_setIfInBounds_self_of_lt (by simp; omega)]
  · unfold segSet
    rw [Array.getElem?_setIfInBounds_self_of_lt (by simp; omega)]
  · unfold segSet
    rw [Array.getElem?_setIfInBounds_ne (by omega), Array.getElem?_setIfInBounds_ne (by omega), Array.getElem?_setIfInBounds_self_of_lt (by omega)]

/-- Between two rounds of Append's second loop. -/
def TookRel (W0 : World) (sg o : Nat) (cs0 : Array Value) (x : PSeg) (mv0 : Value) (acc : List Ent) (c : Value) (wr : World) : Prop :=
  ∃ (k : Nat) (mv : Value) (cs : Array Value), k ≤ acc.length ∧ c = .int .i64 k ∧ SegAt wr sg o cs0 (x.tookAll (acc.take k)) mv cs ∧ (mv.ownBlock = mv0.ownBlock ∨ ∃ b, mv.ownBlock = some b ∧ W0.heap.size ≤ b) ∧ Fr (fun j => j = sg ∨ mv0.ownBlock = some j) W0 wr

theorem LogTo.disk {w wc wx : World} {l d : Nat} {S SD : Nat → Prop} {L : PLog} {D' : PDisk} (h : LogAt w l d S L) (hb : Below w.heap.size w wc) (hto : DiskTo wc wx d SD D') (hap : ∀ k, S k → ¬ SD k) : LogTo w wx l d S SD L D' := by
  obtain ⟨SD', a, f, s⟩ := hto
  have hsz := hb.size
  exact ⟨S, SD', (h.below hb).fr f hap, a, (Fr.of_below hb).trans (f.mono fun _ _ h => .inr h), fun k hk => .inl hk, fun k hk => (s k hk).imp id (by omega)⟩

theorem LogRep.ms_split {w : World} {l d : Nat} {ms : List Value} {sv : Value} {L : PLog} (h : LogRep w l d ms sv L) {a : List PSeg} {x : PSeg} (hs : L.segs = a ++ [x]) : ∃ ma v, ms = ma ++ [v] ∧ ma.length = a.length := by
  have hl := h.len
  rw [hs, List.length_append, List.length_singleton] at hl
  have hne : ms ≠ [] := by intro e; rw [e] at hl; simp at hl
  refine ⟨ms.dropLast, ms.getLast hne, (List.dropLast_concat_getLast hne).symm, ?_⟩
  rw [List.length_dropLast]; omega

theorem LogRep.segAt {w : World} {l d : Nat} {ma : List Value} {v : Value} {sg n cap : Nat} {L : PLog} (h : LogRep w l d (ma ++ [v]) (.slice (some ⟨sg, 0, none⟩) n cap) L) {a : List PSeg} {x : PSeg} (hs : L.segs = a ++ [x]) (hm : ma.length = a.length) :
    ∃ cs, SegAt w sg (a.length * 4) cs x v cs := by
  rcases h.segs.2 with ⟨h1, _⟩ | ⟨g, cap', cur, hv, _, hh, h1, h2, h3, h4⟩
  · cases h1
  · injection hv with e1 _ e3
    injection e1 with e1
    injection e1 with e1 _
    subst e1 e3
    have hat := segCells_at L.segs (ma ++ [v]) a.length x v (by rw [hs]; simp) (by rw [← hm]; simp)
    have hcur : ∀ j, j < L.segs.length * 4 → cur[j]? = (segCells L.segs (ma ++ [v]))[j]? := by
      intro j hj
      rw [← h4, List.getElem?_take_of_lt hj]
      simp
    have hn : L.segs.length = a.length + 1 := by rw [hs]; simp
    refine ⟨cur, hh, rfl, fun _ _ => rfl, ?_, ?_, ?_, ?_, h.marks a.length x v (by rw [hs]; simp) (by rw [← hm]; simp)⟩
    · have := hat 0; rw [Nat.add_zero] at this; rw [hcur _ (by omega), this]; rfl
    · rw [hcur _ (by omega), hat 1]; rfl
    · rw [hcur _ (by omega), hat 2]; rfl
    · rw [hcur _ (by omega), hat 3]; rfl

/-- A log whose last segment has been noted in. -/
theorem LogRep.retake {w wr : World} {l d : Nat} {ma : List Value} {v mv : Value} {sg n cap : Nat} {L : PLog} (h : LogRep w l d (ma ++ [v]) (.slice (some ⟨sg, 0, none⟩) n cap) L) {a : List PSeg} {x x' : PSeg} (hs : L.segs = a ++ [x]) (hm : ma.length = a.length) {cs0 cs : Array Value}
    (h0 : SegAt w sg (a.length * 4) cs0 x v cs0) (h1 : SegAt wr sg (a.length * 4) cs0 x' mv cs) (hown : mv.ownBlock = v.ownBlock ∨ ∃ b, mv.ownBlock = some b ∧ w.heap.size ≤ b) (hf : Fr (fun j => j = sg ∨ v.ownBlock = some j) w wr) :
    LogRep wr l d (ma ++ [mv]) (.slice (some ⟨sg, 0, none⟩) n cap) { L with segs := a ++ [x'] } := by
  have hn : L.segs.length = a.length + 1 := by rw [hs]; simp
  have hsgS : ∀ b, v.ownBlock = some b → b ≠ sg := by
    rintro b hb rfl
    obtain ⟨c, fz, hc⟩ := Lib.ownsRow_kind h0.marks b hb
    have := h0.blk
    unfold Blk at this
    rw [this] at hc
    cases hc
  have hlS : ¬ (l = sg ∨ v.ownBlock = some l) := by
    rintro (e | e)
    · subst e
      have := h0.blk.inj h.hdr
      exact absurd this.2 (by decide)
    · obtain ⟨c, fz, hc⟩ := Lib.ownsRow_kind h0.marks l e
      have := h.hdr
      unfold Blk at this
      rw [this] at hc
      cases hc
  have hlt : ∀ (i : Nat) (u : Value) (b : Nat), ma[i]? = some u → u.ownBlock = some b → b < w.heap.size ∧ b ≠ sg ∧ v.ownBlock ≠ some b := by
    intro i u b hi hb
    have hia : i < a.length := by have := (List.getElem?_eq_some_iff.1 hi).1; omega
    have hu : (ma ++ [v])[i]? = some u := by rw [List.getElem?_append_left (by omega)]; exact hi
    have hx : L.segs[i]? = some a[i] := by rw [hs, List.getElem?_append_left hia]; exact List.getElem?_eq_getElem hia
    have hr := h.marks i _ u hx hu
    refine ⟨(hr.lt b hb).2, ?_, fun e => ?_⟩
    · rintro rfl
      obtain ⟨c, fz, hc⟩ := Lib.ownsRow_kind hr b hb
      have := h0.blk
      unfold Blk at this
      rw [this] at hc
      cases hc
    · have := h.apart i ma.length u v b hu (by simp) hb e
      omega
  refine ⟨h.hdr.fr hf hlS, by simp [hm], ?_, ?_, ?_⟩
  · rcases h.segs.2 with ⟨h2, _⟩ | ⟨g, cap', cur, hv, hg, hh, k1, k2, k3, k4⟩
    · cases h2
    · injection hv with e1 e2 e3
      injection e1 with e1
      injection e1 with e1 _
      subst e1 e3
      have hcur : cs0 = cur := (h0.blk.inj hh).1
      subst hcur
      have hlen' : (a ++ [x']).length = L.segs.length := by rw [hn]; simp
      refine ⟨by rw [segCells_len _ _ (by simp [hm])], .inr ⟨sg, cap, cs, by rw [hlen', ← e2], hg, h1.blk, by rw [hlen']; exact k1, k2, by rw [h1.size]; exact k3, ?_⟩⟩
      show cs.toList.take ((a ++ [x']).length * 4) = segCells (a ++ [x']) (ma ++ [mv])
      apply List.ext_getElem?
      intro j
      have hold : ∀ j, j < L.segs.length * 4 → cs0[j]? = (segCells L.segs (ma ++ [v]))[j]? := by
        intro j hj
        rw [← k4, List.getElem?_take_of_lt hj]
        simp
      have hl1 : (segCells a ma).length = a.length * 4 := segCells_len a ma hm
      by_cases hj : j < (a ++ [x']).length * 4
      · rw [List.getElem?_take_of_lt hj, Array.getElem?_toList, segCells_app _ _ _ _ hm]
        by_cases hj2 : j < a.length * 4
        · rw [h1.off j (.inl hj2), hold j (by omega), hs, segCells_app _ _ _ _ hm, List.getElem?_append_left (by omega), List.getElem?_append_left (by omega)]
        · rw [List.getElem?_append_right (by omega), hl1]
          simp only [List.length_append, List.length_singleton] at hj
          obtain ⟨q, rfl⟩ : ∃ q, j = a.length * 4 + q := ⟨j - a.length * 4, by omega⟩
          rw [Nat.add_sub_cancel_left]
          have hq : q < 4 := by omega
          match q, hq with
          | 0, _ => exact h1.c0
          | 1, _ => exact h1.c1
          | 2, _ => exact h1.c2
          | 3, _ => exact h1.c3
      · rw [List.getElem?_eq_none (by rw [List.length_take]; omega), List.getElem?_eq_none (by rw [segCells_len _ _ (by simp [hm])]; omega)]
  · intro i y u hy hu
    simp only at hy
    by_cases hi : i < a.length
    · rw [List.getElem?_append_left hi] at hy
      rw [List.getElem?_append_left (by omega)] at hu
      refine row_fr (h.marks i y u (by rw [hs, List.getElem?_append_left hi]; exact hy) (by rw [List.getElem?_append_left (by omega)]; exact hu)) hf ?_
      rintro b hb (e | e)
      · exact (hlt i u b hu hb).2.1 e
      · exact (hlt i u b hu hb).2.2 e
    · have hi2 := (List.getElem?_eq_some_iff.1 hy).1
      simp only [List.length_append, List.length_singleton] at hi2
      have hie : i = a.length := by omega
      subst hie
      rw [List.getElem?_append_right (by omega), Nat.sub_self] at hy
      rw [List.getElem?_append_right (by omega), hm, Nat.sub_self] at hu
      simp only [List.getElem?_cons_zero, Option.some.injEq] at hy hu
      subst hy hu
      exact h1.marks
  · have key : ∀ (i : Nat) (u : Value) (b : Nat), ma[i]? = some u → u.ownBlock = some b → mv.ownBlock ≠ some b := by
      intro i u b hi hb e
      have := hlt i u b hi hb
      rcases hown with h2 | ⟨b2, h2, h3⟩
      · exact this.2.2 (h2 ▸ e)
      · rw [h2] at e
        injection e with e
        omega
    intro i j u1 u2 b hi hj hb1 hb2
    by_cases hi1 : i < ma.length
    · rw [List.getElem?_append_left hi1] at hi
      by_cases hj1 : j < ma.length
      · rw [List.getElem?_append_left hj1] at hj
        exact h.apart i j u1 u2 b (by rw [List.getElem?_append_left hi1]; exact hi) (by rw [List.getElem?_append_left hj1]; exact hj) hb1 hb2
      · rw [List.getElem?_append_right (by omega)] at hj
        have hj2 := (List.getElem?_eq_some_iff.1 hj).1
        simp only [List.length_singleton] at hj2
        have : j - ma.length = 0 := by omega
        rw [this] at hj
        simp only [List.getElem?_cons_zero, Option.some.injEq] at hj
        subst hj
        exact absurd hb2 (key i u1 b hi hb1)
    · rw [List.getElem?_append_right (by omega)] at hi
      have hi2 := (List.getElem?_eq_some_iff.1 hi).1
      simp only [List.length_singleton] at hi2
      have : i - ma.length = 0 := by omega
      rw [this] at hi
      simp only [List.getElem?_cons_zero, Option.some.injEq] at hi
      subst hi
      by_cases hj1 : j < ma.length
      · rw [List.getElem?_append_left hj1] at hj
        exact absurd hb1 (key j u2 b hj hb2)
      · have hj2 := (List.getElem?_eq_some_iff.1 hj).1
        simp only [List.length_append, List.length_singleton] at hj2
        omega

end Go.Proofs.YtnibpknhpjcamaaGreatDoor
