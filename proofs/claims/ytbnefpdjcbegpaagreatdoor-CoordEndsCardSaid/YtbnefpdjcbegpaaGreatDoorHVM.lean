/-
  slices.IndexFunc, DeleteFunc over transactions' rows: the walks. Conditions: cells that read.
  coord: Todo: the walk. No conditions.
-/
import Derived.Test.YtbnefpdjcbegpaaGreatDoorGPM
import Derived.Test.YtbnefpdjcbegpaaGreatDoorHKM
import Derived.Test.YtbnefpdjcbegpaaGreatDoorProg
import Derived.Test.YtbnefpdjcbegpaaGreatDoorHPM
set_option maxRecDepth 100000
namespace Go.Proofs.YtbnefpdjcbegpaaGreatDoor
open Go.RowKit

/-- The cells of rows. -/
def TrRead (w : World) (g : Nat) (l : List PTr) : Prop :=
  ∀ j x, l[j]? = some x → w.cell? ⟨g, j * 5, none⟩ = some (.int .i64 x.pid) ∧ w.cell? ⟨g, j * 5 + 1, none⟩ = some (.int .i64 x.epoch) ∧ w.cell? ⟨g, j * 5 + 2, none⟩ = some (.int .i64 x.state) ∧ w.cell? ⟨g, j * 5 + 3, none⟩ = some (.int .i64 x.parts) ∧ w.cell? ⟨g, j * 5 + 4, none⟩ = some (.int .i64 x.last)

theorem TrRead.below {w w' : World} {g : Nat} {l : List PTr} (h : TrRead w g l) (hb : Below w.heap.size w w') (hg : g < w.heap.size) : TrRead w' g l := by
  intro j x hx
  obtain ⟨h0, h1, h2, h3, h4⟩ := h j x hx
  exact ⟨(hb.cell (p := ⟨g, j * 5, none⟩) hg).trans h0, (hb.cell (p := ⟨g, j * 5 + 1, none⟩) hg).trans h1, (hb.cell (p := ⟨g, j * 5 + 2, none⟩) hg).trans h2, (hb.cell (p := ⟨g, j * 5 + 3, none⟩) hg).trans h3, (hb.cell (p := ⟨g, j * 5 + 4, none⟩) hg).trans h4⟩

theorem TrRead.own {w : World} {base g n cap : Nat} {l : List PTr} (h : w.ownsRow base 28 5 (.slice (some ⟨g, 0, none⟩) n cap) l.length (trCells l)) : TrRead w g l := by
  intro j x hx
  obtain ⟨e0, e1, e2, e3, e4⟩ := trCells_at l j x hx
  have hlt := (List.getElem?_eq_some_iff.1 hx).1
  obtain ⟨rfl, _⟩ : n = l.length ∧ True := by
    rcases h.2 with ⟨h2, _⟩ | ⟨g2, c2, cur, h2, _⟩
    · cases h2
    · injection h2 with _ h3; exact ⟨h3, trivial⟩
  exact ⟨(h.cellAt _ (by omega)).trans e0, (h.cellAt _ (by omega)).trans e1, (h.cellAt _ (by omega)).trans e2, (h.cellAt _ (by omega)).trans e3, (h.cellAt _ (by omega)).trans e4⟩

/-- A function tells q of a row, whatever has become of the blocks in S and of new ones. -/
def TPredFr (S : Nat → Prop) (w0 : World) (gf : Nat) (lb : Array Value) (q : PTr → Bool) : Prop :=
  ∀ (W : World) (x : PTr), Fr S w0 W → Calls Tryz.prog gf (#[x.val] ++ lb) W fun e w' => e = .returned (.bool (q x)) ∧ Below W.heap.size W w'

/-- Where the first one is of which q holds. -/
def TIdx (q : PTr → Bool) (l : List PTr) (r : Int) : Prop :=
  (r = -1 ∧ ∀ x ∈ l, q x = false) ∨ ∃ (k : Nat) (x : PTr), r = k ∧ l[k]? = some x ∧ q x = true ∧ ∀ y ∈ l.take k, q y = false

set_option maxHeartbeats 1000000 in
theorem indexTr_any (g cap : Nat) (l : List PTr) (gf : Nat) (lb : Array Value) (q : PTr → Bool) (w : World) (hl : l.length ≤ 1000000000) (hg : g < w.heap.size) (hc : TrRead w g l)
    (eg : ∀ args w, (callFunc gf args).run Tryz.prog w = .ok (.enter gf args) w) (hp : TPredFr (fun _ => False) w gf lb q) :
    Calls Tryz.prog 73 #[.slice (some ⟨g, 0, none⟩) l.length cap, .func (.func gf) #[] lb] w
      fun e w' => (∃ r : Int, e = .returned (.int .i64 r) ∧ TIdx q l r) ∧ Below w.heap.size w w' := by
  have HC := hid hc
  have HP := hid hp
  clear hc hp
  go_enter Tryz.func73, Tryz.ntmps73
  go_wp2_with fail
  go_loopw [8] (fun c wr => ∃ k : Nat, k ≤ l.length ∧ c = .int .i64 k ∧ Below w.heap.size w wr ∧ ∀ x ∈ l.take k, q x = false) (fun c _ => l.length - (intOf c).toNat)
  case atStart => exact ⟨0, by omega, rfl, Below.refl _ _, by simp⟩
  case round =>
    obtain ⟨k, hk, rfl, hbel, hall⟩ := hrel
    have HALL := hid hall
    have HB := hid hbel
    clear hall hbel
    by_cases hlt : k < l.length
    · obtain ⟨x, hx⟩ : ∃ x, l[k]? = some x := ⟨_, List.getElem?_eq_getElem hlt⟩
      obtain ⟨c0, c1, c2, c3, c4⟩ := HC.out.below HB.out hg k x hx
      have hk0 : (0 : Int) ≤ (k : Int) := by omega
      have hk1 : (k : Int) < (l.length : Int) := by omega
      have hcall := HP.out wr x (Fr.of_below HB.out)
      have htk : l.take (k + 1) = l.take k ++ [x] := by rw [List.take_add_one, hx]; rfl
      have HTK := hid htk
      have HX := hid hx
      clear htk hx
      unfold PTr.val at hcall
      cases hq : q x with
      | true =>
        have HQ := hid hq
        rw [hq] at hcall
        clear hq
        go_wp2_with fail
        refine hcall.mono ?_
        rintro e w' ⟨rfl, hb'⟩
        go_wp2_with fail
        go_ret
        exact ⟨⟨k, rfl, .inr ⟨k, x, rfl, HX.out, HQ.out, HALL.out⟩⟩, bel_next HB.out hb'⟩
      | false =>
        have HQ := hid hq
        rw [hq] at hcall
        clear hq
        go_wp2_with fail
        refine hcall.mono ?_
        rintro e w' ⟨rfl, hb'⟩
        go_wp2_with fail
        go_roundw
        case rel =>
          refine ⟨k + 1, by omega, by go_num, bel_next HB.out hb', fun y hy => ?_⟩
          rw [HTK.out] at hy
          rcases List.mem_append.1 hy with hy | hy
          · exact HALL.out y hy
          · simp only [List.mem_singleton] at hy; rw [hy]; exact HQ.out
        case measure => simp [intOf]; omega
    · obtain rfl : k = l.length := by omega
      go_wp2_with fail
      go_ret
      exact ⟨⟨-1, rfl, .inl ⟨rfl, fun x hx => HALL.out x (by rw [List.take_length]; exact hx)⟩⟩, HB.out⟩

/-- What DeleteFunc holds between two rounds: i were kept of the first j. -/
structure TDelMid (base g cap : Nat) (l : List PTr) (q : PTr → Bool) (w : World) (i j : Nat) (m : List PTr) (wr : World) : Prop where
  len : m.length = l.length
  kept : m.take i = (l.take j).filter fun x => !q x
  rest : m.drop j = l.drop j
  lt : i < j
  le : j ≤ l.length
  row : wr.ownsRow base 28 5 (.slice (some ⟨g, 0, none⟩) l.length cap) l.length (trCells m)
  fr : Fr (fun k => k = g) w wr

theorem TDelMid.at {base g cap : Nat} {l : List PTr} {q : PTr → Bool} {w : World} {i j : Nat} {m : List PTr} {wr : World} (h : TDelMid base g cap l q w i j m wr) {x : PTr} (hx : l[j]? = some x) : m[j]? = some x := by
  have h1 := congrArg (fun l => l[0]?) h.rest
  simpa [List.getElem?_drop, hx] using h1

theorem TDelMid.skip {base g cap : Nat} {l : List PTr} {q : PTr → Bool} {w : World} {i j : Nat} {m : List PTr} {wr w' : World} (h : TDelMid base g cap l q w i j m wr) {x : PTr} (hx : l[j]? = some x) (hq : q x = true) (hb : Below wr.heap.size wr w') : TDelMid base g cap l q w i (j + 1) m w' := by
  have hlt := (List.getElem?_eq_some_iff.1 hx).1
  refine ⟨h.len, ?_, ?_, by have := h.lt; omega, by omega, own_bel h.row hb, h.fr.below hb⟩
  · rw [h.kept, List.take_add_one, hx]
    simp [List.filter_append, hq]
  · have h1 := congrArg (List.drop 1) h.rest
    simpa [List.drop_drop] using h1

theorem TDelMid.keep {base g cap : Nat} {l : List PTr} {q : PTr → Bool} {w : World} {i j : Nat} {m : List PTr} {wr w' : World} (h : TDelMid base g cap l q w i j m wr) {x : PTr} (hx : l[j]? = some x) (hq : q x = false) (hb : Below wr.heap.size wr w') :
    TDelMid base g cap l q w (i + 1) (j + 1) (m.set i x) (((((w'.setCell ⟨g, i * 5, none⟩ (.int .i64 x.pid)).setCell ⟨g, i * 5 + 1, none⟩ (.int .i64 x.epoch)).setCell ⟨g, i * 5 + 2, none⟩ (.int .i64 x.state)).setCell ⟨g, i * 5 + 3, none⟩ (.int .i64 x.parts)).setCell ⟨g, i * 5 + 4, none⟩ (.int .i64 x.last)) := by
  have hlt := (List.getElem?_eq_some_iff.1 hx).1
  have hij := h.lt
  have hlen := h.len
  refine ⟨by rw [List.length_set]; exact h.len, ?_, ?_, by omega, by omega, ?_, ?_⟩
  · rw [List.take_succ_eq_append_getElem (by rw [List.length_set]; omega), List.take_set_of_le (Nat.le_refl i), h.kept, List.take_add_one, hx]
    simp [List.filter_append, hq]
  · have h1 := congrArg (List.drop 1) h.rest
    rw [List.drop_set_of_lt (by omega)]
    simpa [List.drop_drop] using h1
  · rw [trCells_set _ _ _ (by omega)]
    exact own_set (own_set (own_set (own_set (own_set (own_bel h.row hb) _ _) _ _) _ _) _ _) _ _
  · exact (((((h.fr.below hb).setCell (p := ⟨g, i * 5, none⟩) (.inl rfl) _).setCell (p := ⟨g, i * 5 + 1, none⟩) (.inl rfl) _).setCell (p := ⟨g, i * 5 + 2, none⟩) (.inl rfl) _).setCell (p := ⟨g, i * 5 + 3, none⟩) (.inl rfl) _).setCell (p := ⟨g, i * 5 + 4, none⟩) (.inl rfl) _

theorem TDelMid.done {base g cap : Nat} {l : List PTr} {q : PTr → Bool} {w : World} {i : Nat} {m : List PTr} {wr : World} (h : TDelMid base g cap l q w i l.length m wr) (vs : List Value) :
    i = (l.filter fun x => !q x).length ∧ (wr.setCells g (i * 5) vs).ownsRow base 28 5 (.slice (some ⟨g, 0, none⟩) i cap) (l.filter fun x => !q x).length (trCells (l.filter fun x => !q x)) ∧ Fr (fun k => k = g) w (wr.setCells g (i * 5) vs) := by
  have h1 := h.kept
  rw [List.take_length] at h1
  have hlt := h.lt
  have hlen := h.len
  have hi : i = (l.filter fun x => !q x).length := by rw [← h1, List.length_take]; omega
  refine ⟨hi, ?_, fr_cells (S := fun k => k = g) rfl vs h.fr⟩
  have h2 := own_cut h.row (i := i) (by omega)
  have h3 : (trCells m).take (i * 5) = trCells (l.filter fun x => !q x) := by
    have h4 : trCells m = trCells (m.take i) ++ trCells (m.drop i) := by rw [← trCells_app, List.take_append_drop]
    rw [h4, h1, List.take_append_of_le_length (by rw [trCells_len, ← hi]; omega), List.take_of_length_le (by rw [trCells_len, ← hi]; omega)]
  rw [h3] at h2
  rw [← hi]
  exact own_cells_far vs h2 (Nat.le_refl _)

theorem tr_zero : ∃ z, (∀ w, (zeroValue 28).run Tryz.prog w = .ok z w) ∧ z.cells.size = 5 ∧ ∀ v ∈ z.cells.toList, v.oneCell' = true :=
  ⟨.agg #[.int .i64 0, .int .i64 0, .int .i64 0, .int .i64 0, .int .i64 0], fun _ => by kernel_rfl, by kernel_rfl, by decide +kernel⟩

def TDelPost (base g cap : Nat) (l : List PTr) (q : PTr → Bool) (w : World) (e : Ending) (w' : World) : Prop :=
  e = .returned (.slice (some ⟨g, 0, none⟩) (l.filter fun x => !q x).length cap) ∧ w'.ownsRow base 28 5 (.slice (some ⟨g, 0, none⟩) (l.filter fun x => !q x).length cap) (l.filter fun x => !q x).length (trCells (l.filter fun x => !q x)) ∧ Fr (fun k => k = g) w w'

set_option maxHeartbeats 2000000 in
theorem deleteTr_any (base g cap : Nat) (l : List PTr) (gf : Nat) (lb : Array Value) (q : PTr → Bool) (w : World) (hl : l.length ≤ 1000000000)
    (hown : w.ownsRow base 28 5 (.slice (some ⟨g, 0, none⟩) l.length cap) l.length (trCells l))
    (eg : ∀ args w, (callFunc gf args).run Tryz.prog w = .ok (.enter gf args) w) (hp : TPredFr (fun k => k = g) w gf lb q) :
    Calls Tryz.prog 49 #[.slice (some ⟨g, 0, none⟩) l.length cap, .func (.func gf) #[] lb] w (TDelPost base g cap l q w) := by
  have hg : g < w.heap.size := (hown.lt g rfl).2
  have hcap : l.length ≤ cap := by
    rcases hown.2 with ⟨h2, _⟩ | ⟨g2, c2, cur, h2, _, _, h5, _⟩
    · cases h2
    · injection h2 with _ _ h3; omega
  have HO := hid hown
  have HP := hid hp
  have HIX := hid (indexTr_any g cap l gf lb q w hl hg (TrRead.own hown) eg (fun W x h => hp W x (h.mono fun _ _ h => h.elim)))
  clear hown hp
  go_enter Tryz.func49, Tryz.ntmps49
  go_wp2_with fail
  refine HIX.out.mono ?_
  rintro e w1 ⟨⟨r, rfl, hidx⟩, hb⟩
  have HB := hid hb
  clear hb HIX
  rcases hidx with ⟨rfl, hall⟩ | ⟨k0, x0, rfl, hx0, hq0, hall⟩
  · have hfil : (l.filter fun x => !q x) = l := List.filter_eq_self.2 (fun x hx => by rw [hall x hx]; rfl)
    have HF := hid hfil
    clear hfil hall
    go_wp2_with fail
    go_ret
    unfold TDelPost
    rw [HF.out]
    exact ⟨rfl, own_bel HO.out HB.out, Fr.of_below HB.out⟩
  · have hk0 := (List.getElem?_eq_some_iff.1 hx0).1
    have hne1 : ((k0 : Int) == -1) = false := beq_eq_false_iff_ne.2 (by omega)
    have hne2 : decide ((k0 : Int) = -1) = false := decide_eq_false (by omega)
    have hstart : TDelMid base g cap l q w k0 (k0 + 1) l w1 := by
      refine ⟨rfl, ?_, rfl, by omega, by omega, own_bel HO.out HB.out, Fr.of_below HB.out⟩
      rw [List.take_add_one, hx0, List.filter_append]
      have h1 : (l.take k0).filter (fun x => !q x) = l.take k0 := List.filter_eq_self.2 (fun x hx => by rw [hall x hx]; rfl)
      rw [h1]
      simp [hq0]
    have HS := hid hstart
    clear hstart hall hx0 hq0
    go_wp2_with fail
    go_loopw [5, 6] (fun ci cj wr => ∃ (i j : Nat) (m : List PTr), ci = .int .i64 i ∧ cj = .int .i64 j ∧ TDelMid base g cap l q w i j m wr) (fun _ cj _ => l.length - (intOf cj).toNat)
    case atStart => exact ⟨k0, k0 + 1, l, rfl, by go_num, HS.out⟩
    case round =>
      obtain ⟨i, j, m, rfl, rfl, hmid⟩ := hrel
      have hij := hmid.lt
      have hjl := hmid.le
      have hml := hmid.len
      have hgr : g < wr.heap.size := (hmid.row.lt g rfl).2
      have hi0 : (0 : Int) ≤ (i : Int) := by omega
      have hj0 : (0 : Int) ≤ (j : Int) := by omega
      by_cases hlt : j < l.length
      · obtain ⟨x, hx⟩ : ∃ x, l[j]? = some x := ⟨_, List.getElem?_eq_getElem hlt⟩
        have hj1 : (j : Int) < (l.length : Int) := by omega
        have hi1 : (i : Int) < (l.length : Int) := by omega
        obtain ⟨c0, c1, c2, c3, c4⟩ := TrRead.own (n := l.length) (by rw [hml]; exact hmid.row) j x (hmid.at hx)
        have HM := hid hmid
        have HX := hid hx
        clear hmid hx hij hjl hml
        have hcall := HP.out (wr.alloc (.cells #[.int .i64 x.pid, .int .i64 x.epoch, .int .i64 x.state, .int .i64 x.parts, .int .i64 x.last] 28)) x (HM.out.fr.alloc _)
        unfold PTr.val at hcall
        have hblk := Blk.new wr #[.int .i64 x.pid, .int .i64 x.epoch, .int .i64 x.state, .int .i64 x.parts, .int .i64 x.last] 28
        have hba : Below wr.heap.size wr (wr.alloc (.cells #[.int .i64 x.pid, .int .i64 x.epoch, .int .i64 x.state, .int .i64 x.parts, .int .i64 x.last] 28)) := bel_alloc (Below.refl _ _) _
        have HBLK := hid hblk
        have HBA := hid hba
        clear hblk hba
        go_wp2_with fail
        refine hcall.mono ?_
        rintro e w2 ⟨rfl, hb2⟩
        have hb3 := bel_next HBA.out hb2
        obtain ⟨f0, f1, f2, f3, f4⟩ : w2.cell? ⟨wr.heap.size, 0, none⟩ = some (.int .i64 x.pid) ∧ w2.cell? ⟨wr.heap.size, 1, none⟩ = some (.int .i64 x.epoch) ∧ w2.cell? ⟨wr.heap.size, 2, none⟩ = some (.int .i64 x.state) ∧ w2.cell? ⟨wr.heap.size, 3, none⟩ = some (.int .i64 x.parts) ∧ w2.cell? ⟨wr.heap.size, 4, none⟩ = some (.int .i64 x.last) := by
          have h9 := HBLK.out.below' hb2
          exact ⟨h9.cell rfl, h9.cell rfl, h9.cell rfl, h9.cell rfl, h9.cell rfl⟩
        clear c0 c1 c2 c3 c4 hcall hb2 HBA HBLK
        cases hq : q x with
        | true =>
          have HK := hid (HM.out.skip HX.out hq hb3)
          clear hq hb3
          go_wp2_with fail
          go_roundw
          case rel => exact ⟨i, j + 1, m, rfl, by go_num, HK.out⟩
          case measure => simp [intOf]; omega
        | false =>
          have HK := hid (HM.out.keep HX.out hq hb3)
          have hrow2 := own_bel HM.out.row hb3
          have z0 := row_free hrow2 (i * 5)
          have z1 := row_free hrow2 (i * 5 + 1)
          have z2 := row_free hrow2 (i * 5 + 2)
          have z3 := row_free hrow2 (i * 5 + 3)
          have z4 := row_free hrow2 (i * 5 + 4)
          have hml := HM.out.len
          obtain ⟨y, hy⟩ : ∃ y, m[i]? = some y := ⟨_, List.getElem?_eq_getElem (by omega)⟩
          obtain ⟨c0, c1, c2, c3, c4⟩ := TrRead.own (l := m) (n := l.length) (by rw [hml]; exact hrow2) i y hy
          have hne : g ≠ wr.heap.size := by omega
          clear hq hb3 hrow2 hml hy
          go_wp2_with fail
          go_roundw
          case rel => exact ⟨i + 1, j + 1, m.set i x, by go_num, by go_num, HK.out⟩
          case measure => simp [intOf]; omega
      · obtain rfl : j = l.length := by omega
        obtain ⟨z, hz0, hz1, hz2⟩ := tr_zero
        have hi2 : (i : Int) ≤ (l.length : Int) := by omega
        have hrow := hmid.row
        have hclr : ∀ ty, (Builtin.clear_ #[31] ty #[.slice (some ⟨g, i * 5, none⟩) (l.length - i) (cap - i)]).run Tryz.prog wr = .ok (.tuple #[]) (wr.setCells g (i * 5) (Builtin.zeroCells z.cells (l.length - i)).toList) :=
          fun ty => run_clear_rows wr _ _ ty z 5 Tryz.underlying31 hz0 hz1 hz2 (by decide) g (i * 5) (l.length - i) (cap - i) (by omega) (fun k hk => by
            have hlt9 : i * 5 + k < (trCells m).length := by rw [trCells_len]; omega
            rw [hrow.cellAt _ (by rw [trCells_len] at hlt9; omega), List.getElem?_eq_getElem hlt9]; rfl) (fun k _ => row_free hrow _)
        have HD := hid (hmid.done (Builtin.zeroCells z.cells (l.length - i)).toList)
        clear hrow hmid hz0 hz1 hz2 hml
        generalize wr.setCells g (i * 5) (Builtin.zeroCells z.cells (l.length - i)).toList = w9 at hclr HD
        go_wp2_with fail
        go_ret
        obtain ⟨h1, h2, h3⟩ := HD.out
        unfold TDelPost
        rw [h1] at h2 ⊢
        exact ⟨rfl, h2, h3⟩
end Go.Proofs.YtbnefpdjcbegpaaGreatDoor

namespace Go.Proofs.YtbnefpdjcbegpaaGreatDoor
open Go.RowKit

set_option maxHeartbeats 1000000 in
theorem indexTr_nil (gf : Nat) (lb : Array Value) (w : World) :
    Calls Tryz.prog 73 #[.slice none 0 0, .func (.func gf) #[] lb] w fun e w' => e = .returned (.int .i64 (-1)) ∧ w = w' := by
  go_enter Tryz.func73, Tryz.ntmps73
  go_wp2_with fail
  go_loopw [8] (fun c wr => c = .int .i64 0 ∧ wr = w) (fun _ _ => 0)
  case atStart => exact ⟨rfl, rfl⟩
  case round =>
    obtain ⟨rfl, rfl⟩ := hrel
    go_wp2_with fail
    go_ret
    exact ⟨rfl, rfl⟩

set_option maxHeartbeats 1000000 in
theorem deleteTr_nil (gf : Nat) (lb : Array Value) (w : World) :
    Calls Tryz.prog 49 #[.slice none 0 0, .func (.func gf) #[] lb] w fun e w' => e = .returned (.slice none 0 0) ∧ w = w' := by
  go_enter Tryz.func49, Tryz.ntmps49
  go_wp2_with fail
  refine (indexTr_nil gf lb w).mono ?_
  rintro e w' ⟨rfl, rfl⟩
  go_wp2_with fail
  go_ret
  exact ⟨rfl, rfl⟩

/-- Whose transactions are decided. -/
def todoOf (s : List PTr) : List PTr := s.filter fun x => !(!decide (x.state = 3 ∨ x.state = 4))

theorem todoOf_mem {s : List PTr} {t : PTr} : t ∈ todoOf s ↔ t ∈ s ∧ (t.state = 3 ∨ t.state = 4) := by
  unfold todoOf
  rw [List.mem_filter]
  simp

set_option maxHeartbeats 1000000 in
theorem todo1_any {w0 : World} {S : Nat → Prop} : TPredFr S w0 50 #[] (fun x => !decide (x.state = 3 ∨ x.state = 4)) := by
  intro W x _
  have hcall := coDecided_any x (W.alloc (.cells #[.int .i64 x.pid, .int .i64 x.epoch, .int .i64 x.state, .int .i64 x.parts, .int .i64 x.last] 28))
  have hba : Below W.heap.size W (W.alloc (.cells #[.int .i64 x.pid, .int .i64 x.epoch, .int .i64 x.state, .int .i64 x.parts, .int .i64 x.last] 28)) := bel_alloc (Below.refl _ _) _
  have HBA := hid hba
  unfold PTr.val at hcall ⊢
  clear hba
  obtain ⟨b, hb⟩ : ∃ b, decide (x.state = 3 ∨ x.state = 4) = b := ⟨_, rfl⟩
  rw [hb] at hcall
  have HBB := hid hb
  clear hb
  show Calls Tryz.prog 50 #[.agg #[.int .i64 x.pid, .int .i64 x.epoch, .int .i64 x.state, .int .i64 x.parts, .int .i64 x.last]] W _
  go_enter Tryz.func50, Tryz.ntmps50
  go_wp2_with fail
  refine hcall.mono ?_
  rintro e w' ⟨rfl, hb'⟩
  go_wp2_with fail
  go_ret
  exact ⟨by dsimp only; rw [HBB.out]; rfl, bel_next HBA.out hb'⟩

section
variable {w : World} {c l d : Nat} {S SL SD : Nat → Prop} {C : PCo} {A : ALog} {D : PDisk}

set_option maxHeartbeats 2000000 in
theorem coTodo_any (h : Trio (coThing c l) w l d S SL SD C A.toP D) (hr : TRight C.rows) :
    Calls Tryz.prog 29 #[.pointer (some ⟨c, 0, none⟩)] w fun e w' => ∃ v, e = .returned v ∧ w'.ownsRow w.heap.size 28 5 v (todoOf C.rows).length (trCells (todoOf C.rows)) ∧ Below w.heap.size w w' := by
  have hl8 := hr.len
  obtain ⟨rv, hrep⟩ := CoAt.rep h.obj
  have y1 := hrep.c0.2
  have HC := hid (cloneTr_any hrep.rows (tr_one C.rows) (by omega))
  clear hrep h hr
  go_enter Tryz.func29, Tryz.ntmps29
  go_wp2_with fail
  have egc : ∀ args w, (callFunc 50 args).run Tryz.prog w = .ok (.enter 50 args) w := enters_of Tryz.func50 (by kernel_rfl) rfl
  refine HC.out.mono ?_
  rintro e w1 ⟨v1, rfl, hown, hb1⟩
  have HB1 := hid hb1
  clear hb1 HC y1
  rcases Joins.ownsRow_forms hown with ⟨rfl, hz⟩ | ⟨g, cap, rfl⟩
  · have HLN := hid (List.length_eq_zero_iff.1 hz)
    clear hown hz egc
    go_wp2_with fail
    refine (deleteTr_nil _ _ w1).mono ?_
    rintro e w2 ⟨rfl, rfl⟩
    go_wp2_with fail
    go_ret
    rw [HLN.out]
    exact ⟨_, rfl, World.ownsRow_nil _ _ _ _, HB1.out⟩
  · have hg := hown.lt g rfl
    have hdel := deleteTr_any w.heap.size g cap C.rows _ _ _ w1 (by omega) hown egc todo1_any
    unfold TDelPost at hdel
    have hfil : (C.rows.filter fun x => !(!decide (x.state = 3 ∨ x.state = 4))) = todoOf C.rows := rfl
    rw [hfil] at hdel
    have HDEL := hid hdel
    clear hfil hdel
    have hgw : w.heap.size ≤ g := hg.1
    clear hown hg egc
    go_wp2_with fail
    refine HDEL.out.mono ?_
    rintro e w2 ⟨rfl, hrow, hf⟩
    have HR := hid hrow
    have HB2 : Hid (Below w.heap.size w w2) := hid (HB1.out.trans (hf.to_below HB1.out.size (fun k hk h9 => by omega)))
    clear hrow hf HDEL
    go_wp2_with fail
    go_ret
    exact ⟨_, rfl, HR.out, HB2.out⟩
end
end Go.Proofs.YtbnefpdjcbegpaaGreatDoor
