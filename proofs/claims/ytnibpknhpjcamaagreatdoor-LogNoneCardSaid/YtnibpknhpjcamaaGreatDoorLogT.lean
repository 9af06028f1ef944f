/-
  seglog: took: the walk. Conditions: numbers that fit.
-/
import Derived.Test.YtnibpknhpjcamaaGreatDoorLog
import Derived.Deep.RegionLaw
import Derived.Lib.OwnKind
import Derived.Deep.AppendLies
import Derived.Deep.DrawnRows
import Derived.Deep.DeepCutAuto
set_option maxRecDepth 100000
namespace Go.Proofs.YtnibpknhpjcamaaGreatDoor
open Go.RowKit
attribute [local go_sem ↓] Go.wp_at_zero Go.wp_at_succ

/-- The cells of a segment, changed. -/
def segSet (cs : Array Value) (o : Nat) (x : PSeg) (mv : Value) : Array Value :=
  ((cs.setIfInBounds (o + 3) mv).setIfInBounds (o + 1) (.int .i64 x.bytes)).setIfInBounds (o + 2) (.int .i64 x.entries)

/-- What took leaves. -/
def TookPost (g o : Nat) (cs : Array Value) (mv : Value) (x' : PSeg) (w : World) (r : Ending) (w' : World) : Prop :=
  ∃ mv', r = .returned (.tuple #[]) ∧ Blk w' g (segSet cs o x' mv') 99 ∧ w'.ownsRow 0 54 3 mv' x'.marks.length (markCells x'.marks) ∧
    (mv'.ownBlock = mv.ownBlock ∨ ∃ k, mv'.ownBlock = some k ∧ w.heap.size ≤ k) ∧ Fr (fun k => k = g ∨ mv.ownBlock = some k) w w'

set_option maxHeartbeats 8000000 in
theorem took_mark (g o : Nat) (cs : Array Value) (x : PSeg) (mv : Value) (b m n : Int) (tx : ByteArray) (w : World) (hb : Blk w g cs 99)
    (h0 : cs[o]? = some (.int .i64 x.base)) (h1 : cs[o + 1]? = some (.int .i64 x.bytes)) (h2 : cs[o + 2]? = some (.int .i64 x.entries)) (h3 : cs[o + 3]? = some mv)
    (hm : w.ownsRow 0 54 3 mv x.marks.length (markCells x.marks)) (hk : x.marked = true) (hs : x.marks.length ≤ 1048576) (hb0 : 0 ≤ x.bytes) (hb1 : x.bytes + n ≤ 1099511627776) (hn0 : 0 ≤ n) (he0 : 0 ≤ x.entries) (he1 : x.entries ≤ 1099511627776)
    (hp : ∀ y ∈ x.marks, 0 ≤ y.pos ∧ y.pos ≤ 1099511627776) :
    Calls Tryz.prog 61 #[.pointer (some ⟨g, o, none⟩), .agg #[.int .i64 b, .int .i64 m, .string tx], .int .i64 n] w (TookPost g o cs mv (x.took b n) w) := by
  obtain ⟨i0, hi, hz0, hz1, hz2⟩ := info_parts Tryz.infoMark
  have htook : x.took b n = { x with marks := x.marks ++ [⟨b, x.base, x.bytes⟩], bytes := x.bytes + n, entries := x.entries + 1 } := by unfold PSeg.took; rw [if_pos hk]
  have c0 := hb.cell h0
  have c1 := hb.cell h1
  have c2 := hb.cell h2
  have c3 := hb.cell h3
  have hglt := hb.lt
  obtain ⟨ad, k, cap, rfl, hkl⟩ : ∃ ad k cap, mv = .slice ad k cap ∧ k = x.marks.length := by
    rcases Joins.ownsRow_forms hm with ⟨e, e2⟩ | ⟨g, cap, e⟩
    · exact ⟨none, 0, 0, e, e2.symm⟩
    · exact ⟨_, _, cap, e, rfl⟩
  rw [← hkl] at hm hs
  have HTOOK := hid htook
  have HK := hid hk
  have HP := hid hp
  have HNUM := hid (And.intro hb0 (And.intro hb1 (And.intro hn0 (And.intro he0 he1))))
  have HM := hid hm
  have HB := hid hb
  have HH0 := hid h0
  have HH1 := hid h1
  have HH2 := hid h2
  have HH3 := hid h3
  have HKL := hid hkl
  have HMG : Hid ((Value.slice ad k cap).ownBlock ≠ some g) := by
    refine hid ?_
    intro e
    obtain ⟨c, fz, hc⟩ := Lib.ownsRow_kind HM.out g e
    have hb2 := HB.out
    unfold Blk at hb2
    rw [hb2] at hc
    cases hc
  clear hp hm hb h0 h1 h2 h3 hk hb0 hb1 hn0 he0 he1 htook hkl
  go_enter Tryz.func61, Tryz.ntmps61
  go_upto_region 2 with fail
  go_cut [31] (fun c wx => c = .bool true ∧ ∃ n, wx = (w.alloc (.cells #[.int .i64 b, .int .i64 m, .string tx] 37)).drewN n)
  case first =>
    cases hl : x.marks.getLast? with
    | none =>
      have hkz : k = 0 := by have : x.marks = [] := by simpa using hl
                             rw [HKL.out, this]; rfl
      clear hl
      subst hkz
      go_quiet (fail)
      go_wp2_with fail
      go_meet
      exact ⟨rfl, _, rfl⟩
    | some y =>
      obtain ⟨ms, hms⟩ : ∃ ms, x.marks = ms ++ [y] := by
        rw [List.getLast?_eq_some_iff] at hl; exact hl
      have hlen : k = ms.length + 1 := by rw [HKL.out, hms]; simp
      subst hlen
      obtain ⟨mb, cap', he⟩ := ownsRow_succ HM.out
      injection he with e1 _ e3
      subst e1 e3
      have hpos : w.cell? ⟨mb, ms.length * 3 + 2, none⟩ = some (.int .i64 y.pos) := by
        rw [HM.out.cellAt _ (by omega), hms, markCells_app, List.getElem?_append_right (by rw [markCells_len]; omega), markCells_len]
        simp [markCells]
      have hy := HP.out y (by rw [hms]; simp)
      have hbig : 256 ≤ x.bytes - y.pos := by
        have hk := HK.out
        unfold PSeg.marked at hk; rw [hl] at hk; simpa using hk
      have hnum := HNUM.out
      clear hl hms
      have hd : decide ((ms.length : Int) + 1 = 0) = false := by simp; omega
      have hmblt : mb < w.heap.size := World.block_lt_of_cell? w _ hpos
      have hiw : IntKind.i64.wrap (ms.length : Int) = ms.length := IntWalk.i64_in _ (by omega)
      have hj0 : (0 : Int) ≤ (ms.length : Int) := by omega
      have hj1 : (ms.length : Int) < (ms.length : Int) + 1 := by omega
      have hjw : IntKind.i64.wrap (x.bytes - y.pos) = x.bytes - y.pos := IntWalk.i64_in _ (by omega)
      go_quiet (fail)
      go_wp2_with fail
      go_meet
      exact ⟨rfl, _, rfl⟩
  case rest =>
    obtain ⟨rfl, nq, rfl⟩ := hcut
    go_upto_region 3 with fail
    have HNX : Hid ((((w.alloc (.cells #[.int .i64 b, .int .i64 m, .string tx] 37)).drewN (nq + 1)).alloc (.cells #[.int .i64 b, .int .i64 x.base, .int .i64 x.bytes] 54)).heap[w.heap.size + 1]? = some (.cells #[.int .i64 b, .int .i64 x.base, .int .i64 x.bytes] 54)) := by
      have h := heap_alloc_new ((w.alloc (.cells #[.int .i64 b, .int .i64 m, .string tx] 37)).drewN (nq + 1)) (.cells #[.int .i64 b, .int .i64 x.base, .int .i64 x.bytes] 54)
      have e : ((w.alloc (.cells #[.int .i64 b, .int .i64 m, .string tx] 37)).drewN (nq + 1)).heap.size = w.heap.size + 1 := by simp
      rw [e] at h
      exact hid h
    have HOX : Hid ((((w.alloc (.cells #[.int .i64 b, .int .i64 m, .string tx] 37)).drewN (nq + 1)).alloc (.cells #[.int .i64 b, .int .i64 x.base, .int .i64 x.bytes] 54)).ownsRow 0 54 3 (.slice ad k cap) k (markCells x.marks)) :=
      hid (World.ownsRow.alloc (show ((w.alloc (.cells #[.int .i64 b, .int .i64 m, .string tx] 37)).drewN (nq + 1)).ownsRow 0 54 3 _ _ _ from HM.out.alloc _) _)
    have HBX : Hid (Blk (((w.alloc (.cells #[.int .i64 b, .int .i64 m, .string tx] 37)).drewN (nq + 1)).alloc (.cells #[.int .i64 b, .int .i64 x.base, .int .i64 x.bytes] 54)) g cs 99) := hid (((HB.out.alloc _).drewN _).alloc _)
    go_cut [2] (fun c wx => c = .int .i64 n ∧ ∃ gg cap2 w3, wx = w3.setCell ⟨g, o + 3, none⟩ (.slice (some ⟨gg, 0, none⟩) (k + 1) cap2) ∧ w3.ownsRow 0 54 3 (.slice (some ⟨gg, 0, none⟩) (k + 1) cap2) (k + 1) (markCells x.marks ++ [.int .i64 b, .int .i64 x.base, .int .i64 x.bytes]) ∧
      (((w.alloc (.cells #[.int .i64 b, .int .i64 m, .string tx] 37)).drewN (nq + 1)).alloc (.cells #[.int .i64 b, .int .i64 x.base, .int .i64 x.bytes] 54)).grownBy w3 (Value.slice ad k cap).ownBlock ∧ ((Value.slice ad k cap).ownBlock = some gg ∨ gg = w.heap.size + 2))
    case first =>
      go_region_law ((refine step_append_lies _ (by rfl) _ _ _ (by rfl) 0 54 i0 _ 3 24 Tryz.underlying51 hi hz0 hz1 hz2 rfl (by omega) (.slice ad k cap) k _ (by rfl) HOX.out ⟨w.heap.size + 1, 0, none⟩ 1 1 [.int .i64 b, .int .i64 x.base, .int .i64 x.bytes] (by rfl) (by rfl) (World.news_of_block (cs := #[.int .i64 b, .int .i64 x.base, .int .i64 x.bytes]) (t := 54) (fr := (0, 0)) HNX.out) (by simp [Value.oneCell']) (by omega) (by unfold maxLen; omega) (by omega) (Nat.zero_le _) (w.heap.size + 2) (by simp) ?_; intro gg cap2 w3 hown3 hgrow hat hlt3; have hB3 := hid (HBX.out.grown hgrow HMG.out); have d3 := hB3.out.cell HH3.out; have k3 := hB3.out.free (o + 3); have HO3 := hid hown3; have HG3 := hid hgrow; have HA3 := hid hat; clear hown3 hgrow hat))
      all_goals (go_wp2_with fail; go_meet; exact ⟨rfl, _, _, _, rfl, HO3.out, HG3.out, HA3.out⟩)
    case rest =>
      obtain ⟨rfl, gg, cap2, w3, rfl, hown3, hgrow, hat⟩ := hcut
      have hB3 := HBX.out.grown hgrow HMG.out
      have hB4 := hB3.set (o + 3) (.slice (some ⟨gg, 0, none⟩) (k + 1) cap2)
      obtain ⟨cs1, hcs1⟩ : ∃ cs1, cs1 = cs.setIfInBounds (o + 3) (.slice (some ⟨gg, 0, none⟩) (k + 1) cap2) := ⟨_, rfl⟩
      rw [← hcs1] at hB4
      have e1 : cs1[o + 1]? = some (.int .i64 x.bytes) := by rw [hcs1, Array.getElem?_setIfInBounds_ne (by omega)]; exact HH1.out
      have e2 : cs1[o + 2]? = some (.int .i64 x.entries) := by rw [hcs1, Array.getElem?_setIfInBounds_ne (by omega)]; exact HH2.out
      have d1 := hB4.cell e1
      have d2 := hB4.cell e2
      have k1 := hB4.free (o + 1)
      have k2 := hB4.free (o + 2)
      have hnum := HNUM.out
      obtain ⟨W, hW⟩ : ∃ W, w3.setCell ⟨g, o + 3, none⟩ (.slice (some ⟨gg, 0, none⟩) (k + 1) cap2) = W := ⟨_, rfl⟩
      rw [hW] at hB4 d1 d2 k1 k2 ⊢
      have hB5 := hB4.set (o + 1) (.int .i64 (x.bytes + n))
      have d3 := hB5.cell (i := o + 2) (v := .int .i64 x.entries) (by rw [Array.getElem?_setIfInBounds_ne (by omega)]; exact e2)
      have k3 := hB5.free (o + 2)
      have hB6 := hB5.set (o + 2) (.int .i64 (x.entries + 1))
      have HB6 := hid hB6
      have HW := hid hW
      have HO3 := hid hown3
      have HG3 := hid hgrow
      have HAT := hid hat
      have HC1 := hid hcs1
      clear hB3 hB4 hB5 hB6 hW hown3 hgrow hat hcs1 e1 e2
      go_wp2_with fail
      have hf1 : Fr (fun j => j = g ∨ (Value.slice ad k cap).ownBlock = some j) w w3 := by
        have ha : Fr (fun j => j = g ∨ (Value.slice ad k cap).ownBlock = some j) w ((w.alloc (.cells #[.int .i64 b, .int .i64 m, .string tx] 37)).drewN (nq + 1)) := ((Fr.refl _ w).alloc _).drewN _
        have hb' := ha.alloc (.cells #[.int .i64 b, .int .i64 x.base, .int .i64 x.bytes] 54)
        have hg := HG3.out
        exact ⟨hg.os.trans hb'.os, hg.tape.trans hb'.tape, hg.output.trans hb'.output, Nat.le_trans hb'.size hg.size, fun j hj hn => (hg.block j (Nat.lt_of_lt_of_le hj hb'.size) (fun e => hn (.inr e.symm))).trans (hb'.block j hj hn)⟩
      have hf2 : Fr (fun j => j = g ∨ (Value.slice ad k cap).ownBlock = some j) w ((W.setCell ⟨g, o + 1, none⟩ (.int .i64 (x.bytes + n))).setCell ⟨g, o + 2, none⟩ (.int .i64 (x.entries + 1))) := by
        rw [← HW.out]
        exact Fr.setCell (p := ⟨g, o + 2, none⟩) (Fr.setCell (p := ⟨g, o + 1, none⟩) (Fr.setCell (p := ⟨g, o + 3, none⟩) hf1 (.inl (.inl rfl)) _) (.inl (.inl rfl)) _) (.inl (.inl rfl)) _
      refine ⟨rfl, .tuple #[], by simp [results, Tryz.results61, go_sem], .slice (some ⟨gg, 0, none⟩) (k + 1) cap2, rfl, ?_, ?_, ?_, hf2⟩
      · have h := HB6.out
        rw [HC1.out] at h
        rw [HTOOK.out]
        exact h
      · rw [HTOOK.out]
        have hg : ¬ ((Value.slice (some ⟨gg, 0, none⟩) (k + 1) cap2).ownBlock = some g) := by
          intro e
          obtain ⟨c, fz, hc⟩ := Lib.ownsRow_kind HO3.out g e
          have hb2 := HBX.out.grown HG3.out HMG.out
          unfold Blk at hb2
          rw [hb2] at hc
          cases hc
        have hfx : Fr (fun j => j = g) w3 ((W.setCell ⟨g, o + 1, none⟩ (.int .i64 (x.bytes + n))).setCell ⟨g, o + 2, none⟩ (.int .i64 (x.entries + 1))) := by
          rw [← HW.out]
          exact Fr.setCell (S := fun j => j = g) (p := ⟨g, o + 2, none⟩) (Fr.setCell (S := fun j => j = g) (p := ⟨g, o + 1, none⟩) (Fr.setCell (S := fun j => j = g) (p := ⟨g, o + 3, none⟩) (Fr.refl _ _) (.inl rfl) _) (.inl rfl) _) (.inl rfl) _
        have hl : (x.marks ++ [(⟨b, x.base, x.bytes⟩ : PMark)]).length = k + 1 := by rw [List.length_append, ← HKL.out]; rfl
        have hc : markCells (x.marks ++ [(⟨b, x.base, x.bytes⟩ : PMark)]) = markCells x.marks ++ [.int .i64 b, .int .i64 x.base, .int .i64 x.bytes] := by rw [markCells_app]; rfl
        rw [hl, hc]
        refine ⟨HO3.out.1, ?_⟩
        rcases HO3.out.2 with h2 | ⟨g2, cap3, cur, hv, hg2, hh, r⟩
        · exact .inl h2
        · refine .inr ⟨g2, cap3, cur, hv, hg2, (hfx.block g2 (Array.getElem?_eq_some_iff.1 hh).1 (fun e => hg ?_)).trans hh, r⟩
          rw [hv, e]; rfl
      · rcases HAT.out with h | h
        · exact .inl h.symm
        · exact .inr ⟨gg, rfl, by omega⟩

set_option maxHeartbeats 8000000 in
theorem took_plain (g o : Nat) (cs : Array Value) (x : PSeg) (mv : Value) (b m n : Int) (tx : ByteArray) (w : World) (hb : Blk w g cs 99)
    (h0 : cs[o]? = some (.int .i64 x.base)) (h1 : cs[o + 1]? = some (.int .i64 x.bytes)) (h2 : cs[o + 2]? = some (.int .i64 x.entries)) (h3 : cs[o + 3]? = some mv)
    (hm : w.ownsRow 0 54 3 mv x.marks.length (markCells x.marks)) (hk : x.marked = false) (hs : x.marks.length ≤ 1048576) (hb0 : 0 ≤ x.bytes) (hb1 : x.bytes + n ≤ 1099511627776) (hn0 : 0 ≤ n) (he0 : 0 ≤ x.entries) (he1 : x.entries ≤ 1099511627776)
    (hp : ∀ y ∈ x.marks, 0 ≤ y.pos ∧ y.pos ≤ 1099511627776) :
    Calls Tryz.prog 61 #[.pointer (some ⟨g, o, none⟩), .agg #[.int .i64 b, .int .i64 m, .string tx], .int .i64 n] w (TookPost g o cs mv (x.took b n) w) := by
  have htook : x.took b n = { x with bytes := x.bytes + n, entries := x.entries + 1 } := by unfold PSeg.took; simp [hk]
  have c0 := hb.cell h0
  have c1 := hb.cell h1
  have c2 := hb.cell h2
  have c3 := hb.cell h3
  have hglt := hb.lt
  obtain ⟨ad, k, cap, rfl, hkl⟩ : ∃ ad k cap, mv = .slice ad k cap ∧ k = x.marks.length := by
    rcases Joins.ownsRow_forms hm with ⟨e, e2⟩ | ⟨g, cap, e⟩
    · exact ⟨none, 0, 0, e, e2.symm⟩
    · exact ⟨_, _, cap, e, rfl⟩
  rw [← hkl] at hm hs
  have HTOOK := hid htook
  have HK := hid hk
  have HP := hid hp
  have HNUM := hid (And.intro hb0 (And.intro hb1 (And.intro hn0 (And.intro he0 he1))))
  have HM := hid hm
  have HB := hid hb
  have HH0 := hid h0
  have HH1 := hid h1
  have HH2 := hid h2
  have HH3 := hid h3
  have HKL := hid hkl
  have HMG : Hid ((Value.slice ad k cap).ownBlock ≠ some g) := by
    refine hid ?_
    intro e
    obtain ⟨c, fz, hc⟩ := Lib.ownsRow_kind HM.out g e
    have hb2 := HB.out
    unfold Blk at hb2
    rw [hb2] at hc
    cases hc
  clear hp hm hb h0 h1 h2 h3 hk hb0 hb1 hn0 he0 he1 htook hkl
  go_enter Tryz.func61, Tryz.ntmps61
  go_upto_region 2 with fail
  go_cut [31] (fun c wx => c = .bool false ∧ ∃ n, wx = (w.alloc (.cells #[.int .i64 b, .int .i64 m, .string tx] 37)).drewN n)
  case first =>
    cases hl : x.marks.getLast? with
    | none =>
      exfalso
      have hk := HK.out
      unfold PSeg.marked at hk
      rw [hl] at hk
      cases hk
    | some y =>
      obtain ⟨ms, hms⟩ : ∃ ms, x.marks = ms ++ [y] := by
        rw [List.getLast?_eq_some_iff] at hl; exact hl
      have hlen : k = ms.length + 1 := by rw [HKL.out, hms]; simp
      subst hlen
      obtain ⟨mb, cap', he⟩ := ownsRow_succ HM.out
      injection he with e1 _ e3
      subst e1 e3
      have hpos : w.cell? ⟨mb, ms.length * 3 + 2, none⟩ = some (.int .i64 y.pos) := by
        rw [HM.out.cellAt _ (by omega), hms, markCells_app, List.getElem?_append_right (by rw [markCells_len]; omega), markCells_len]
        simp [markCells]
      have hy := HP.out y (by rw [hms]; simp)
      have hbig : ¬ 256 ≤ x.bytes - y.pos := by
        have hk := HK.out
        unfold PSeg.marked at hk; rw [hl] at hk; simpa using hk
      have hnum := HNUM.out
      clear hl hms
      have hd : decide ((ms.length : Int) + 1 = 0) = false := by simp; omega
      have hmblt : mb < w.heap.size := World.block_lt_of_cell? w _ hpos
      have hiw : IntKind.i64.wrap (ms.length : Int) = ms.length := IntWalk.i64_in _ (by omega)
      have hj0 : (0 : Int) ≤ (ms.length : Int) := by omega
      have hj1 : (ms.length : Int) < (ms.length : Int) + 1 := by omega
      have hjw : IntKind.i64.wrap (x.bytes - y.pos) = x.bytes - y.pos := IntWalk.i64_in _ (by omega)
      go_quiet (fail)
      go_wp2_with fail
      go_meet
      exact ⟨rfl, _, rfl⟩
  case rest =>
    obtain ⟨rfl, nq, rfl⟩ := hcut
    have hB4 : Blk ((w.alloc (.cells #[.int .i64 b, .int .i64 m, .string tx] 37)).drewN nq) g cs 99 := (HB.out.alloc _).drewN _
    have d1 := hB4.cell HH1.out
    have d2 := hB4.cell HH2.out
    have k1 := hB4.free (o + 1)
    have k2 := hB4.free (o + 2)
    have hnum := HNUM.out
    obtain ⟨W, hW⟩ : ∃ W, (w.alloc (.cells #[.int .i64 b, .int .i64 m, .string tx] 37)).drewN nq = W := ⟨_, rfl⟩
    rw [hW] at hB4 d1 d2 k1 k2 ⊢
    have hB5 := hB4.set (o + 1) (.int .i64 (x.bytes + n))
    have d3 := hB5.cell (i := o + 2) (v := .int .i64 x.entries) (by rw [Array.getElem?_setIfInBounds_ne (by omega)]; exact HH2.out)
    have k3 := hB5.free (o + 2)
    have HB6 := hid (hB5.set (o + 2) (.int .i64 (x.entries + 1)))
    have HW := hid hW
    clear hB4 hB5 hW
    go_wp2_with fail
    have hf1 : Fr (fun j => j = g) w W := by rw [← HW.out]; exact ((Fr.refl _ w).alloc _).drewN _
    have hf2 : Fr (fun j => j = g) w ((W.setCell ⟨g, o + 1, none⟩ (.int .i64 (x.bytes + n))).setCell ⟨g, o + 2, none⟩ (.int .i64 (x.entries + 1))) :=
      Fr.setCell (S := fun j => j = g) (p := ⟨g, o + 2, none⟩) (Fr.setCell (S := fun j => j = g) (p := ⟨g, o + 1, none⟩) hf1 (.inl rfl) _) (.inl rfl) _
    have hset : cs.setIfInBounds (o + 3) (.slice ad k cap) = cs := by
      apply Array.ext_getElem?
      intro i
      by_cases e : o + 3 = i
      · subst e
        rw [Array.getElem?_setIfInBounds_self_of_lt (Array.getElem?_eq_some_iff.1 HH3.out).1]; exact HH3.out.symm
      · rw [Array.getElem?_setIfInBounds_ne e]
    refine ⟨rfl, .tuple #[], by simp [results, Tryz.results61, go_sem], .slice ad k cap, rfl, ?_, ?_, .inl rfl, hf2.mono (fun _ _ h => .inl h)⟩
    · rw [HTOOK.out]
      unfold segSet
      rw [hset]
      exact HB6.out
    · rw [HTOOK.out, ← HKL.out]
      refine ⟨HM.out.1, ?_⟩
      rcases HM.out.2 with h2 | ⟨g2, cap3, cur, hv, hg2, hh, r⟩
      · exact .inl h2
      · refine .inr ⟨g2, cap3, cur, hv, hg2, (hf2.block g2 (Array.getElem?_eq_some_iff.1 hh).1 (fun e => HMG.out ?_)).trans hh, r⟩
        rw [hv, e]; rfl

/-- **took.** -/
theorem took_any (g o : Nat) (cs : Array Value) (x : PSeg) (mv : Value) (b m n : Int) (tx : ByteArray) (w : World) (hb : Blk w g cs 99)
    (h0 : cs[o]? = some (.int .i64 x.base)) (h1 : cs[o + 1]? = some (.int .i64 x.bytes)) (h2 : cs[o + 2]? = some (.int .i64 x.entries)) (h3 : cs[o + 3]? = some mv)
    (hm : w.ownsRow 0 54 3 mv x.marks.length (markCells x.marks)) (hs : x.marks.length ≤ 1048576) (hb0 : 0 ≤ x.bytes) (hb1 : x.bytes + n ≤ 1099511627776) (hn0 : 0 ≤ n) (he0 : 0 ≤ x.entries) (he1 : x.entries ≤ 1099511627776)
    (hp : ∀ y ∈ x.marks, 0 ≤ y.pos ∧ y.pos ≤ 1099511627776) :
    Calls Tryz.prog 61 #[.pointer (some ⟨g, o, none⟩), .agg #[.int .i64 b, .int .i64 m, .string tx], .int .i64 n] w (TookPost g o cs mv (x.took b n) w) := by
  cases hk : x.marked with
  | true => exact took_mark g o cs x mv b m n tx w hb h0 h1 h2 h3 hm hk hs hb0 hb1 hn0 he0 he1 hp
  | false => exact took_plain g o cs x mv b m n tx w hb h0 h1 h2 h3 hm hk hs hb0 hb1 hn0 he0 he1 hp

end Go.Proofs.YtnibpknhpjcamaaGreatDoor
