/-
  seglog: Segments, Marks: the walks. Conditions: numbers that fit.
-/
import Derived.Test.YtnibpknhpjcamaaGreatDoorLogB
import Derived.Test.YtnibpknhpjcamaaGreatDoorLogQ
import Derived.Laws.AppendOwnNone
set_option maxRecDepth 100000
namespace Go.Proofs.YtnibpknhpjcamaaGreatDoor
open Go.RowKit

theorem Tryz.infoApiSeg : (Tryz.prog.info? 42).map (fun i => (i.zero, i.size, i.bytes)) = some (some (.agg #[.int .i64 0, .int .i64 0, .int .i64 0]), 3, 24) := by kernel_rfl

/-- The descriptions of segments. -/
def descCells (l : List PSeg) : List Value := l.flatMap fun s => [.int .i64 s.base, .int .i64 s.bytes, .int .i64 s.entries]
theorem descCells_app (a b : List PSeg) : descCells (a ++ b) = descCells a ++ descCells b := by unfold descCells; rw [List.flatMap_append]

theorem row_slice {w : World} {base : Nat} {e : TypeId} {size : Nat} {v : Value} {n : Nat} {xs : List Value} (h : w.ownsRow base e size v n xs) : ∃ ad cap, v = .slice ad n cap := by
  rcases Joins.ownsRow_forms h with ⟨e, hz⟩ | ⟨g, cap, e⟩
  · exact ⟨none, 0, by rw [e, hz]⟩
  · exact ⟨_, cap, e⟩

def SegsPost (L : PLog) (w : World) (e : Ending) (w' : World) : Prop :=
  ∃ v, e = .returned v ∧ w'.ownsRow w.heap.size 42 3 v L.segs.length (descCells L.segs) ∧ Below w.heap.size w w'

def SegsRel (L : PLog) (w : World) (c v : Value) (wr : World) : Prop :=
  ∃ k : Nat, ∃ v1 : Value, k ≤ L.segs.length ∧ c = .int .i64 k ∧ v1 = v ∧ wr.ownsRow w.heap.size 42 3 v1 k (descCells (L.segs.take k)) ∧ Below w.heap.size w wr

set_option maxHeartbeats 1000000 in
theorem segments_any {w : World} {l d : Nat} {S : Nat → Prop} {L : PLog} (h : LogAt w l d S L) (hlen : L.segs.length ≤ 1000000) :
    Calls Tryz.prog 18 #[ptr l] w (SegsPost L w) := by
  obtain ⟨i0, hi, hz0, hz1, hz2⟩ := info_parts Tryz.infoApiSeg
  obtain ⟨ms, sv, h, _⟩ := h
  obtain ⟨c0, c1, c2, c3, c4, c5, c6⟩ := h.cells
  obtain ⟨ad, cap, rfl, hat⟩ := h.form
  have HAT := hid hat
  have HR := hid h
  clear h hat
  unfold ptr
  go_enter Tryz.func18, Tryz.ntmps18
  go_wp2_with fail
  go_loopw [14, 3] (fun c v wr => SegsRel L w c v wr) (fun c _ _ => L.segs.length - (intOf c).toNat)
  case atStart => exact ⟨0, _, by omega, rfl, rfl, World.ownsRow_nil _ _ _ _, Below.refl _ _⟩
  case round =>
    obtain ⟨k, v, hk, rfl, rfl, hown, hb⟩ := hrel
    by_cases hlt : k < L.segs.length
    · obtain ⟨x, hx⟩ : ∃ x, L.segs[k]? = some x := ⟨_, List.getElem?_eq_getElem hlt⟩
      obtain ⟨u, hu⟩ : ∃ u, ms[k]? = some u := ⟨_, List.getElem?_eq_getElem (by rw [HR.out.len]; exact hlt)⟩
      obtain ⟨g, rfl, b0, b1, b2, b3⟩ := HAT.out k x u hx hu
      obtain ⟨ua, uc, rfl⟩ := row_slice (HR.out.marks k x u hx hu)
      have hglt : g < w.heap.size := World.block_lt_of_cell? w _ b0
      have d0 : wr.cell? ⟨g, k * 4, none⟩ = some (.int .i64 x.base) := (hb.cell (p := ⟨g, k * 4, none⟩) hglt).trans b0
      have d1 : wr.cell? ⟨g, k * 4 + 1, none⟩ = some (.int .i64 x.bytes) := (hb.cell (p := ⟨g, k * 4 + 1, none⟩) hglt).trans b1
      have d2 : wr.cell? ⟨g, k * 4 + 2, none⟩ = some (.int .i64 x.entries) := (hb.cell (p := ⟨g, k * 4 + 2, none⟩) hglt).trans b2
      have d3 := (hb.cell (p := ⟨g, k * 4 + 3, none⟩) hglt).trans b3
      have hst : descCells (L.segs.take (k + 1)) = descCells (L.segs.take k) ++ [.int .i64 x.base, .int .i64 x.bytes, .int .i64 x.entries] := by
        rw [List.take_add_one, hx, descCells_app]; rfl
      have HST := hid hst
      have HO := hid hown
      have HB := hid hb
      have hsz := hb.size
      clear hst hown hb b0 b1 b2 b3 hx hu
      go_wp2_with (first
        | (at_builtin; refine wpList_append_own _ rfl _ _ 39 rfl w.heap.size 42 i0 (.agg #[.int .i64 0, .int .i64 0, .int .i64 0]) 3 24 Tryz.underlying39 hi hz0 hz1 hz2 rfl (by decide) _ _ _ rfl ((HO.out.alloc _).alloc _) ⟨wr.heap.size + 1, 0, none⟩ 1 1 [.int .i64 x.base, .int .i64 x.bytes, .int .i64 x.entries] rfl rfl ?c1 ?c2 ?c3 ?c4 ?c5 ?_))
      case c1 =>
        intro j y hj
        have h := cells_new (wr.alloc (.cells #[.int .i64 x.base, .int .i64 x.bytes, .int .i64 x.entries, .slice ua x.marks.length uc] 99)) [.int .i64 x.base, .int .i64 x.bytes, .int .i64 x.entries] 42 j y hj
        rw [World.size_alloc] at h
        exact h
      case c2 => simp [Value.oneCell']
      case c3 => unfold maxLen; omega
      case c4 => omega
      case c5 => simp; omega
      intro v' w1 hown1 hgrow _
      have hbw : Below w.heap.size w w1 := bel_append (bel_alloc (bel_alloc HB.out _) _) ((HO.out.alloc _).alloc _) (by simp; omega) hgrow
      have HO1 := hid hown1
      have HBW := hid hbw
      clear hown1 hbw hgrow
      go_wp2_with fail
      go_roundw
      case rel => exact ⟨k + 1, v', by omega, by go_num, rfl, by rw [HST.out]; exact HO1.out, HBW.out⟩
      case measure => simp [intOf]; omega
    · obtain rfl : k = L.segs.length := by omega
      have htk : L.segs.take L.segs.length = L.segs := List.take_length
      rw [htk] at hown
      have HO := hid hown
      have HB := hid hb
      clear hown hb htk
      go_wp2_with fail
      go_ret
      exact ⟨_, rfl, HO.out, HB.out⟩

def MarksPost (L : PLog) (w : World) (e : Ending) (w' : World) : Prop :=
  ∃ v, e = .returned v ∧ w'.ownsRow w.heap.size 54 3 v (L.segs.flatMap PSeg.marks).length (markCells (L.segs.flatMap PSeg.marks)) ∧ Below w.heap.size w w'

def MarksRel (L : PLog) (w : World) (c v : Value) (wr : World) : Prop :=
  ∃ (k : Nat) (v1 : Value), k ≤ L.segs.length ∧ c = .int .i64 k ∧ v1 = v ∧ wr.ownsRow w.heap.size 54 3 v1 ((L.segs.take k).flatMap PSeg.marks).length (markCells ((L.segs.take k).flatMap PSeg.marks)) ∧ Below w.heap.size w wr

theorem one_marks (l : List PMark) : ∀ u ∈ markCells l, u.oneCell' = true := by
  intro u hu
  unfold markCells at hu
  obtain ⟨m, _, hm⟩ := List.mem_flatMap.1 hu
  simp only [List.mem_cons, List.mem_nil_iff, or_false] at hm
  rcases hm with rfl | rfl | rfl <;> rfl

theorem flat_len (l : List PSeg) (B : Nat) (h : ∀ x ∈ l, x.marks.length ≤ B) : (l.flatMap PSeg.marks).length ≤ l.length * B := by
  induction l with
  | nil => simp
  | cons x l ih =>
    rw [List.flatMap_cons, List.length_append, List.length_cons, Nat.succ_mul]
    have := h x (by simp)
    have := ih (fun y hy => h y (by simp [hy]))
    omega

set_option maxHeartbeats 2000000 in
theorem marks_any {w : World} {l d : Nat} {S : Nat → Prop} {L : PLog} (h : LogAt w l d S L) (hwl : L.WF) :
    Calls Tryz.prog 23 #[ptr l] w (MarksPost L w) := by
  obtain ⟨i0, hi, hz0, hz1, hz2⟩ := info_parts Tryz.infoMark
  have hlen := hwl.count
  obtain ⟨ms, sv, h, _⟩ := h
  obtain ⟨c0, c1, c2, c3, c4, c5, c6⟩ := h.cells
  obtain ⟨ad, cap, rfl, hat⟩ := h.form
  have HAT := hid hat
  have HR := hid h
  clear h hat
  unfold ptr
  go_enter Tryz.func23, Tryz.ntmps23
  go_wp2_with fail
  go_loopw [14, 3] (fun c v wr => MarksRel L w c v wr) (fun c _ _ => L.segs.length - (intOf c).toNat)
  case atStart => exact ⟨0, _, by omega, rfl, rfl, World.ownsRow_nil _ _ _ _, Below.refl _ _⟩
  case round =>
    obtain ⟨k, v, hk, rfl, rfl, hown, hb⟩ := hrel
    by_cases hlt : k < L.segs.length
    · obtain ⟨x, hx⟩ : ∃ x, L.segs[k]? = some x := ⟨_, List.getElem?_eq_getElem hlt⟩
      obtain ⟨u, hu⟩ : ∃ u, ms[k]? = some u := ⟨_, List.getElem?_eq_getElem (by rw [HR.out.len]; exact hlt)⟩
      obtain ⟨g, rfl, b0, b1, b2, b3⟩ := HAT.out k x u hx hu
      have hmrow := HR.out.marks k x u hx hu
      have hml := (hwl.marks x (List.mem_of_getElem? hx)).1
      have hglt : g < w.heap.size := World.block_lt_of_cell? w _ b0
      have d0 : wr.cell? ⟨g, k * 4, none⟩ = some (.int .i64 x.base) := (hb.cell (p := ⟨g, k * 4, none⟩) hglt).trans b0
      have d1 : wr.cell? ⟨g, k * 4 + 1, none⟩ = some (.int .i64 x.bytes) := (hb.cell (p := ⟨g, k * 4 + 1, none⟩) hglt).trans b1
      have d2 : wr.cell? ⟨g, k * 4 + 2, none⟩ = some (.int .i64 x.entries) := (hb.cell (p := ⟨g, k * 4 + 2, none⟩) hglt).trans b2
      have d3 := (hb.cell (p := ⟨g, k * 4 + 3, none⟩) hglt).trans b3
      have hst : (L.segs.take (k + 1)).flatMap PSeg.marks = (L.segs.take k).flatMap PSeg.marks ++ x.marks := by
        rw [List.take_add_one, hx, List.flatMap_append]; simp
      have hfl : ((L.segs.take k).flatMap PSeg.marks).length ≤ 1000000 * 1000000 := by
        have h1 := flat_len (L.segs.take k) 1000000 (fun y hy => (hwl.marks y (List.mem_of_mem_take hy)).1)
        have h2 : (L.segs.take k).length ≤ 1000000 := by rw [List.length_take]; omega
        exact Nat.le_trans h1 (Nat.mul_le_mul_right _ h2)
      have HST := hid hst
      have HO := hid hown
      have HB := hid hb
      have HMR := hid hmrow
      have hsz := hb.size
      clear hst hown hb b0 b1 b2 b3 hx hu hmrow
      generalize hacc : (L.segs.take k).flatMap PSeg.marks = acc at *
      rcases Joins.ownsRow_forms HMR.out with ⟨rfl, hz⟩ | ⟨mg, mcap, rfl⟩
      · have hxm : x.marks = [] := List.eq_nil_of_length_eq_zero hz
        have HXM := hid hxm
        clear hxm hz
        go_wp2_with (first
          | (at_builtin; refine wpList_append_own_none rfl _ _ 51 rfl w.heap.size 54 i0 3 Tryz.underlying51 hi v acc.length (markCells acc) rfl (HO.out.alloc _) rfl ?_))
        go_roundw
        case rel => exact ⟨k + 1, v, by omega, by go_num, rfl, by rw [HST.out, HXM.out, List.append_nil]; exact HO.out.alloc _, bel_alloc HB.out _⟩
        case measure => simp [intOf]; omega
      · have hmlt := (HMR.out.lt mg rfl).2
        have hsrc : ∀ j u, (markCells x.marks)[j]? = some u → (wr.alloc (.cells #[.int .i64 x.base, .int .i64 x.bytes, .int .i64 x.entries, .slice (some ⟨mg, 0, none⟩) x.marks.length mcap] 99)).cell? ((⟨mg, 0, none⟩ : Addr).add j) = some u := by
          intro j u hju
          have e : (⟨mg, 0, none⟩ : Addr).add j = ⟨mg, j, none⟩ := by unfold Addr.add; split <;> simp_all
          rw [e]
          have hjl := (List.getElem?_eq_some_iff.1 hju).1
          rw [markCells_len] at hjl
          rw [World.cell?_alloc_lt _ _ _ (by simp; omega), HB.out.cell (p := ⟨mg, j, none⟩) hmlt, HMR.out.cellAt j hjl]
          exact hju
        have HSRC := hid hsrc
        clear hsrc
        go_wp2_with (first
          | (at_builtin; refine wpList_append_own _ rfl _ _ 51 rfl w.heap.size 54 i0 (.agg #[.int .i64 0, .int .i64 0, .int .i64 0]) 3 24 Tryz.underlying51 hi hz0 hz1 hz2 rfl (by decide) _ _ _ rfl (HO.out.alloc _) ⟨mg, 0, none⟩ x.marks.length mcap (markCells x.marks) rfl (markCells_len _) HSRC.out (one_marks _) ?c3 ?c4 ?c5 ?_))
        case c3 => unfold maxLen; omega
        case c4 => omega
        case c5 => simp; omega
        intro v' w1 hown1 hgrow _
        have hbw : Below w.heap.size w w1 := bel_append (bel_alloc HB.out _) (HO.out.alloc _) (by simp; omega) hgrow
        have HO1 := hid hown1
        have HBW := hid hbw
        clear hown1 hbw hgrow
        go_wp2_with fail
        go_roundw
        case rel => exact ⟨k + 1, v', by omega, by go_num, rfl, by rw [HST.out, List.length_append, markCells_app]; exact HO1.out, HBW.out⟩
        case measure => simp [intOf]; omega
    · obtain rfl : k = L.segs.length := by omega
      have htk : L.segs.take L.segs.length = L.segs := List.take_length
      rw [htk] at hown
      have HO := hid hown
      have HB := hid hb
      clear hown hb htk
      go_wp2_with fail
      go_ret
      exact ⟨_, rfl, HO.out, HB.out⟩

end Go.Proofs.YtnibpknhpjcamaaGreatDoor
