/-
  coord: May, of an epoch that is not the producer's own: the walk. Conditions: a partition that may be.
  Chapter 13's laws: deeds that came in, and few: the walk. No conditions but deeds that read.
  The document's Row of producers' rows: the walk. No conditions but rows that fit.
  Chapter 13's laws: aimed: the walk. No conditions but rows that fit.
  coord: Tick: the walk. Conditions: a time that fits.
  A coordinator's deeds, plain: what a deed comes to. No conditions.
-/
import Derived.Test.YtbnefpdjcbegpaaGreatDoorHPM
import Derived.Test.YtbnefpdjcbegpaaGreatDoorHNM
import Derived.Test.YtbnefpdjcbegpaaGreatDoorGIM
import Derived.Test.YtbnefpdjcbegpaaGreatDoorGPM
import Derived.Deep.DeepCutAuto
import Derived.Deep.Slices
set_option maxRecDepth 100000
namespace Go.Proofs.YtbnefpdjcbegpaaGreatDoor
open Go.RowKit

section
variable {w : World} {c l d : Nat} {S SL SD : Nat → Prop} {C : PCo} {A : ALog} {D : PDisk}

set_option maxHeartbeats 2000000 in
theorem coMay_no (pid epoch part : Int) (h : Trio (coThing c l) w l d S SL SD C A.toP D) (hr : TRight C.rows) (hp : 0 ≤ part ∧ part < 13) (hn : rowE C.rows pid epoch ≠ 0) :
    Calls Tryz.prog 16 #[.pointer (some ⟨c, 0, none⟩), .int .i64 pid, .int .i64 epoch, .int .i64 part] w fun e w' => e = .returned (.int .i64 (rowE C.rows pid epoch)) ∧ Below w.heap.size w w' := by
  have hd1 : decide (part < 0) = false := decide_eq_false (by omega)
  have hd2 : decide (13 ≤ part) = false := decide_eq_false (by omega)
  have HT := hid h
  have HR := hid hr
  have HN := hid hn
  clear h hr hn hp
  go_enter Tryz.func16, Tryz.ntmps16
  go_wp2_with fail
  refine (coRow_any pid epoch HT.out HR.out).mono ?_
  rintro e w2 ⟨rfl, hb2⟩
  obtain ⟨x, hx⟩ : ∃ x, rowZ C.rows pid = x := ⟨_, rfl⟩
  obtain ⟨cc, hcc⟩ : ∃ cc, rowE C.rows pid epoch = cc := ⟨_, rfl⟩
  have hc0 := HN.out
  rw [hcc] at hc0
  rw [hx, hcc]
  have hz1 : (cc != 0) = true := by simpa using hc0
  have hz2 : decide (cc = 0) = false := decide_eq_false hc0
  have hz3 : (cc == 0) = false := by simpa using hc0
  unfold PTr.val
  have HB := hid (bel_alloc hb2 (.cells #[.int .i64 x.pid, .int .i64 x.epoch, .int .i64 x.state, .int .i64 x.parts, .int .i64 x.last] 28))
  have HCC := hid hcc
  clear hb2 hx hcc hc0 HN
  go_wp2_with fail
  go_ret
  refine ⟨?_, HB.out⟩
  rw [HCC.out]
  rfl
end
end Go.Proofs.YtbnefpdjcbegpaaGreatDoor

namespace Go.Proofs.YtbnefpdjcbegpaaGreatDoor
open Go.RowKit

/-- A deed of chapter 13's laws. -/
structure CDeed where
  kind : Int
  pid : Int
  epoch : Int
  parts : Int
  yes : Bool
  near : Bool
  keep : List Int
def CDeed.fits (_ : CDeed) : Prop := True
def cdCells (x : CDeed) (K : Value) : List Value := [.int .i64 x.kind, .int .i64 x.pid, .int .i64 x.epoch, .int .i64 x.parts, .bool x.yes, .bool x.near, K]

/-- A deed with the value of its slice. -/
structure CCell where
  d : CDeed
  K : Value
def cdsCells (q : List CCell) : List Value := q.flatMap fun x => cdCells x.d x.K
def CDeed.few (x : CDeed) : CDeed := { x with keep := x.keep.take 70 }
def fewC (l : List CDeed) : List CDeed := (l.take 80).map CDeed.few

def InCDeeds (w : World) (v : Value) (l : List CDeed) : Prop :=
  ∃ q : List CCell, q.map CCell.d = l ∧ InRow w v q.length 7 (cdsCells q) ∧ ∀ x ∈ q, InRow w x.K x.d.keep.length 1 (keepCells x.d.keep) ∧ x.d.fits
def OutCDeeds (w0 w : World) (base : Nat) (v : Value) (l : List CDeed) : Prop :=
  ∃ q : List CCell, q.map CCell.d = l ∧ w.ownsRow base 49 7 v q.length (cdsCells q) ∧ ∀ x ∈ q, InRow w0 x.K x.d.keep.length 1 (keepCells x.d.keep) ∧ x.d.fits

theorem cdsCells_app (a b : List CCell) : cdsCells (a ++ b) = cdsCells a ++ cdsCells b := by unfold cdsCells; rw [List.flatMap_append]

theorem cds_at : ∀ (q : List CCell) (i : Nat) (x : CCell), q[i]? = some x → ∀ r, r < 7 → (cdsCells q)[i * 7 + r]? = (cdCells x.d x.K)[r]?
  | [], _, _, h, _, _ => by simp at h
  | y :: q, 0, x, h, r, hr => by
    simp at h
    subst h
    have e : cdsCells (y :: q) = cdCells y.d y.K ++ cdsCells q := rfl
    rw [e, Nat.zero_mul, Nat.zero_add, List.getElem?_append_left (by unfold cdCells; simpa using hr)]
  | y :: q, i + 1, x, h, r, hr => by
    have := cds_at q i x (by simpa using h) r hr
    have e : cdsCells (y :: q) = cdCells y.d y.K ++ cdsCells q := rfl
    have e2 : (cdCells y.d y.K).length = 7 := rfl
    rw [e, List.getElem?_append_right (by omega), e2, show (i + 1) * 7 + r - 7 = i * 7 + r from by omega]
    exact this

theorem cds_len (q : List CCell) : (cdsCells q).length = q.length * 7 := by
  induction q with
  | nil => rfl
  | cons y q ih =>
    have e : cdsCells (y :: q) = cdCells y.d y.K ++ cdsCells q := rfl
    have e2 : (cdCells y.d y.K).length = 7 := rfl
    rw [e, List.length_append, ih, e2, List.length_cons]; omega

theorem addr_off13 (a : Addr) (i j : Nat) (hj : j ≠ 0) : a.add (i + j) = ⟨(a.add i).block, (a.add i).off + j, none⟩ := by
  rw [← Go.Deep.add_add]
  generalize a.add i = b
  unfold Addr.add
  simp [hj]

theorem Tryz.infoCDeed : (Tryz.prog.info? 49).map (fun i => (i.zero, i.size, i.bytes)) = some (some (.agg #[.int .i64 0, .int .i64 0, .int .i64 0, .int .i64 0, .bool false, .bool false, .slice none 0 0]), 7, 64) := by kernel_rfl

/-- A deed that came in, at its address. -/
theorem inCDeed {w : World} {ad : Option Addr} {q : List CCell} (hat : ∀ j u, (cdsCells q)[j]? = some u → ∃ a, ad = some a ∧ w.cell? (a.add j) = some u) {k : Nat} {x : CCell} (hx : q[k]? = some x) :
    ∃ a, ad = some a ∧ w.cell? (a.add (k * 7)) = some (.int .i64 x.d.kind) ∧ ∀ r u, 0 < r → (cdCells x.d x.K)[r]? = some u → w.cell? ⟨(a.add (k * 7)).block, (a.add (k * 7)).off + r, none⟩ = some u := by
  obtain ⟨a, rfl, h0⟩ := hat (k * 7 + 0) (.int .i64 x.d.kind) (by rw [cds_at q k x hx 0 (by decide)]; rfl)
  refine ⟨a, rfl, h0, fun r u hr hu => ?_⟩
  have hr9 : r < 7 := by
    have h9 := (List.getElem?_eq_some_iff.1 hu).1
    exact h9
  obtain ⟨a', e, h1⟩ := hat (k * 7 + r) u (by rw [cds_at q k x hx r hr9]; exact hu)
  injection e with e
  subst e
  rwa [addr_off13 a (k * 7) r (by omega)] at h1

def FewRel13 (w : World) (q : List CCell) (m : Nat) (c v : Value) (wr : World) : Prop :=
  ∃ (k : Nat) (v1 : Value), k ≤ m ∧ c = .int .i64 k ∧ v1 = v ∧ OutCDeeds w wr w.heap.size v1 ((q.take k).map fun x => x.d.few) ∧ Below w.heap.size w wr

set_option maxHeartbeats 1000000 in
theorem few13_any {w : World} {v : Value} {l : List CDeed} (h : InCDeeds w v l) : Calls Tryz.prog 21 #[v] w fun e w' => ∃ r, e = .returned r ∧ OutCDeeds w w' w.heap.size r (fewC l) ∧ Below w.heap.size w w' := by
  obtain ⟨q, rfl, ⟨hxl, ad, cap, rfl, hcap, hmax, hat⟩, hin⟩ := h
  obtain ⟨m, hm⟩ : ∃ m, m = min q.length 80 := ⟨_, rfl⟩
  have hfew : fewC (q.map CCell.d) = (q.take m).map fun x => x.d.few := by
    unfold fewC
    rw [← List.map_take, List.map_map, hm]
    by_cases h : q.length ≤ 80
    · rw [Nat.min_eq_left h, List.take_of_length_le h, List.take_length]; rfl
    · rw [Nat.min_eq_right (by omega)]; rfl
  rw [hfew]
  have HAT := hid hat
  have HIN := hid hin
  clear hat hin hfew hxl
  have hmq : m ≤ q.length := by omega
  have hm50 : m ≤ 80 := by omega
  obtain ⟨i1, hi1, hy0, hy1, hy2⟩ := info_parts Tryz.infoCDeed
  go_enter Tryz.func21, Tryz.ntmps21
  go_upto_if 8 with fail
  go_cut [0] (fun v0 wx => v0 = .slice ad m cap ∧ wx = w)
  case first =>
    by_cases h50 : q.length ≤ 80
    · obtain rfl : m = q.length := by omega
      have hb2 : decide ((80 : Int) < (q.length : Int)) = false := decide_eq_false (by omega)
      clear hm hm50 hmq
      go_wp2_with fail
      go_meet
      exact ⟨rfl, rfl⟩
    · obtain rfl : m = 80 := by omega
      have hb2 : decide ((80 : Int) < (q.length : Int)) = true := decide_eq_true (by omega)
      clear hm hm50
      go_wp2_with fail
      go_meet
      exact ⟨rfl, rfl⟩
  case rest =>
    obtain ⟨rfl, rfl⟩ := hcut
    rename World => w0
    clear hm hcap
    go_wp2_with fail
    go_loopw [4, 3] (fun c v wr => FewRel13 w0 q m c v wr) (fun c _ _ => m - (intOf c).toNat)
    case atStart => exact ⟨0, _, by omega, rfl, rfl, ⟨[], rfl, World.ownsRow_nil _ _ _ _, by simp⟩, Below.refl _ _⟩
    case round =>
      obtain ⟨k, v, hk, rfl, rfl, ⟨o, hod, horow, hoall⟩, hb⟩ := hrel
      by_cases hlt : k < m
      · obtain ⟨x, hx⟩ : ∃ x, q[k]? = some x := ⟨_, List.getElem?_eq_getElem (by omega)⟩
        obtain ⟨a, rfl, c0, cr⟩ := inCDeed HAT.out hx
        have HX := hid hx
        have HO := hid (And.intro hod (And.intro horow hoall))
        have HB := hid hb
        obtain ⟨⟨_, ka, kc, hK, hkc, hkm, hkat⟩, hfit⟩ := HIN.out x (List.mem_of_getElem? hx)
        clear hx hod horow hoall hb
        obtain ⟨xd, xK⟩ := x
        simp only at hK cr c0 hkat hfit hkc
        subst hK
        have d0 := (HB.out.cell (p := a.add (k * 7)) (World.block_lt_of_cell? w0 _ c0)).trans c0
        have d1 := (HB.out.cell (p := ⟨(a.add (k * 7)).block, (a.add (k * 7)).off + 1, none⟩) (World.block_lt_of_cell? w0 _ (cr 1 _ (by decide) rfl))).trans (cr 1 _ (by decide) rfl)
        have d2 := (HB.out.cell (p := ⟨(a.add (k * 7)).block, (a.add (k * 7)).off + 2, none⟩) (World.block_lt_of_cell? w0 _ (cr 2 _ (by decide) rfl))).trans (cr 2 _ (by decide) rfl)
        have d3 := (HB.out.cell (p := ⟨(a.add (k * 7)).block, (a.add (k * 7)).off + 3, none⟩) (World.block_lt_of_cell? w0 _ (cr 3 _ (by decide) rfl))).trans (cr 3 _ (by decide) rfl)
        have d4 := (HB.out.cell (p := ⟨(a.add (k * 7)).block, (a.add (k * 7)).off + 4, none⟩) (World.block_lt_of_cell? w0 _ (cr 4 _ (by decide) rfl))).trans (cr 4 _ (by decide) rfl)
        have d5 := (HB.out.cell (p := ⟨(a.add (k * 7)).block, (a.add (k * 7)).off + 5, none⟩) (World.block_lt_of_cell? w0 _ (cr 5 _ (by decide) rfl))).trans (cr 5 _ (by decide) rfl)
        have d6 := (HB.out.cell (p := ⟨(a.add (k * 7)).block, (a.add (k * 7)).off + 6, none⟩) (World.block_lt_of_cell? w0 _ (cr 6 _ (by decide) rfl))).trans (cr 6 _ (by decide) rfl)
        obtain ⟨mk, hmk⟩ : ∃ mk, mk = min xd.keep.length 70 := ⟨_, rfl⟩
        have hmkl : mk ≤ xd.keep.length := by omega
        have HMK := hid hmk
        have HKAT := hid hkat
        have HFIT := hid hfit
        clear c0 cr hkat hfit hmk
        go_upto_if 24 with fail
        go_cut [27] (fun _ wx => wx = wr.alloc (.cells #[.int .i64 xd.kind, .int .i64 xd.pid, .int .i64 xd.epoch, .int .i64 xd.parts, .bool xd.yes, .bool xd.near, .slice ka mk kc] 49))
        case first =>
          by_cases h70 : xd.keep.length ≤ 70
          · obtain rfl : mk = xd.keep.length := by have := HMK.out; omega
            have hb2 : decide ((70 : Int) < (xd.keep.length : Int)) = false := decide_eq_false (by omega)
            go_wp2_with fail
            go_meet
            rfl
          · obtain rfl : mk = 70 := by have := HMK.out; omega
            have hb2 : decide ((70 : Int) < (xd.keep.length : Int)) = true := decide_eq_true (by omega)
            go_wp2_with fail
            go_meet
            rfl
        case rest =>
          subst hcut
          clear d0 d1 d2 d3 d4 d5 d6
          have hol : o.length = k := by
            have h := congrArg List.length HO.out.1
            rw [List.length_map, List.length_map, List.length_take, Nat.min_eq_left (by omega)] at h
            exact h
          go_wp2_with (first
            | (at_builtin; refine wpList_append_own _ rfl _ _ 22 rfl w0.heap.size 49 i1 (.agg #[.int .i64 0, .int .i64 0, .int .i64 0, .int .i64 0, .bool false, .bool false, .slice none 0 0]) 7 64 Tryz.underlying22 hi1 hy0 hy1 hy2 rfl (by decide) _ _ _ rfl ((HO.out.2.1.alloc _).alloc _) ⟨wr.heap.size + 1, 0, none⟩ 1 1 [.int .i64 xd.kind, .int .i64 xd.pid, .int .i64 xd.epoch, .int .i64 xd.parts, .bool xd.yes, .bool xd.near, .slice ka mk kc] rfl rfl ?c1 ?c2 ?c3 ?c4 ?c5 ?_))
          case c2 => simp [Value.oneCell']
          case c3 => unfold maxLen; omega
          case c4 => omega
          case c5 => have := HB.out.size; simp; omega
          intro v' w1 hown1 hgrow _
          have hbw : Below w0.heap.size w0 w1 := bel_append (bel_alloc (bel_alloc HB.out _) _) ((HO.out.2.1.alloc _).alloc _) (by have := HB.out.size; simp; omega) hgrow
          have hkeep : InRow w0 (.slice ka mk kc) (xd.keep.take 70).length 1 (keepCells (xd.keep.take 70)) := by
            have hl : (xd.keep.take 70).length = mk := by rw [List.length_take, HMK.out, Nat.min_comm]
            refine ⟨by simp [keepCells], ka, kc, by rw [hl], by omega, hkm, fun j u hu => HKAT.out j u ?_⟩
            unfold keepCells at hu ⊢
            rw [List.map_take, List.getElem?_take] at hu
            split at hu
            · exact hu
            · cases hu
          have hfin : OutCDeeds w0 w1 w0.heap.size v' ((q.take (k + 1)).map fun x => x.d.few) := by
            refine ⟨o ++ [⟨xd.few, .slice ka mk kc⟩], ?_, ?_, ?_⟩
            · rw [List.map_append, HO.out.1, List.take_add_one, HX.out, List.map_append]; rfl
            · rw [cdsCells_app, List.length_append, hol]; exact hown1
            · intro x hx
              rcases List.mem_append.1 hx with hx | hx
              · exact HO.out.2.2 x hx
              · obtain rfl : x = ⟨xd.few, .slice ka mk kc⟩ := by simpa using hx
                exact ⟨hkeep, HFIT.out⟩
          have HFIN := hid hfin
          have HBW := hid hbw
          clear hfin hbw hown1 hgrow hkeep
          go_wp2_with fail
          go_roundw
          case rel => exact ⟨k + 1, v', by omega, by go_num, rfl, HFIN.out, HBW.out⟩
          case measure => simp [intOf]; omega
      · obtain rfl : k = m := by omega
        have HEND : Hid (OutCDeeds w0 wr w0.heap.size v ((q.take k).map fun x => x.d.few) ∧ Below w0.heap.size w0 wr) := hid ⟨⟨o, hod, horow, hoall⟩, hb⟩
        clear hod horow hoall hb
        go_wp2_with fail
        go_ret
        exact ⟨_, rfl, HEND.out.1, HEND.out.2⟩
end Go.Proofs.YtbnefpdjcbegpaaGreatDoor

namespace Go.Proofs.YtbnefpdjcbegpaaGreatDoor
open Go.RowKit

theorem refRow_ret {w w1 : World} {p : Nat} {x : PTr} {c pid : Int} {l : List PTr} {tm : Array Value} (hp : tm[4]? = some (.pointer (some ⟨p, 0, none⟩))) (hc : tm[5]? = some (.int .i64 c)) (hb : Blk w1 p #[.int .i64 x.pid, .int .i64 x.epoch, .int .i64 x.state, .int .i64 x.parts, .int .i64 x.last] 28) (hB : Below w.heap.size w w1) (hz : rowZ l pid = x) (he : rowC l pid = c) :
    bodyPost Tryz.prog Tryz.f10 (RowPost w l pid) .ret { tmps := tm, defers := [] } w1 := by
  have c0 := hb.cell (i := 0) (v := .int .i64 x.pid) rfl
  have c1 := hb.cell (i := 1) (v := .int .i64 x.epoch) rfl
  have c2 := hb.cell (i := 2) (v := .int .i64 x.state) rfl
  have c3 := hb.cell (i := 3) (v := .int .i64 x.parts) rfl
  have c4 := hb.cell (i := 4) (v := .int .i64 x.last) rfl
  refine bodyPost_ret (v := .tuple #[x.val, .int .i64 c]) (by simp [results, Tryz.results10, go_sem, hp, hc, c0, c1, c2, c3, c4, PTr.val]) rfl ⟨by rw [hz, he], hB⟩

set_option maxHeartbeats 2000000 in
theorem refRow_any {w : World} {v : Value} {l : List PTr} (pid : Int) (h : Reads w v l.length 5 (trCells l)) (hl : l.length ≤ 1000000) :
    Calls Tryz.prog 10 #[v, .int .i64 pid] w (RowPost w l pid) := by
  obtain ⟨ad, cap, rfl⟩ : ∃ ad cap, v = .slice ad l.length cap := by
    obtain ⟨_, ad, cap, e, _⟩ := h
    exact ⟨ad, cap, e⟩
  have HR := hid h
  clear h
  have hba : Below w.heap.size w (w.alloc (.cells #[.int .i64 0, .int .i64 0, .int .i64 0, .int .i64 0, .int .i64 0] 28)) := bel_alloc (Below.refl w.heap.size w) _
  have HBA := hid hba
  have HBK := hid (Blk.new w #[.int .i64 0, .int .i64 0, .int .i64 0, .int .i64 0, .int .i64 0] 28)
  clear hba
  go_enter Tryz.func10, Tryz.ntmps10
  go_wp2_with fail
  go_loopw [6] (fun c wr => ∃ k : Nat, k ≤ l.length ∧ c = .int .i64 k ∧ Below w.heap.size w wr ∧ Blk wr w.heap.size #[.int .i64 0, .int .i64 0, .int .i64 0, .int .i64 0, .int .i64 0] 28 ∧ ∀ y ∈ l.take k, y.pid ≠ pid) (fun c _ => l.length - (intOf c).toNat)
  case atStart => exact ⟨0, by omega, rfl, HBA.out, HBK.out, by simp⟩
  case round =>
    clear HBA HBK
    obtain ⟨k, hk, rfl, hb, hbk, hno⟩ := hrel
    have HB := hid hb
    have HBK := hid hbk
    have HNO := hid hno
    have hlt0 : w.heap.size < wr.heap.size := hbk.lt
    have b0 := hbk.cell (i := 0) (v := .int .i64 0) rfl
    have b1 := hbk.cell (i := 1) (v := .int .i64 0) rfl
    have b2 := hbk.cell (i := 2) (v := .int .i64 0) rfl
    have b3 := hbk.cell (i := 3) (v := .int .i64 0) rfl
    have b4 := hbk.cell (i := 4) (v := .int .i64 0) rfl
    have f0 := hbk.free 0
    have f1 := hbk.free 1
    have f2 := hbk.free 2
    have f3 := hbk.free 3
    have f4 := hbk.free 4
    clear hb hbk hno
    by_cases hlt : k < l.length
    · obtain ⟨x, hx⟩ : ∃ x, l[k]? = some x := ⟨_, List.getElem?_eq_getElem hlt⟩
      obtain ⟨ga, rfl, a0, a1, a2, a3, a4⟩ := trReads (HR.out.below HB.out) hx
      have HX := hid hx
      clear hx
      have hne : w.heap.size ≠ wr.heap.size := by omega
      by_cases he : x.pid = pid
      · have hro := rowOf_first HNO.out HX.out he
        have hz : rowZ l pid = x := by unfold rowZ; rw [hro]; rfl
        have hc : rowC l pid = 0 := by unfold rowC; rw [hro]
        have HZ := hid hz
        have HC := hid hc
        clear hro hz hc
        subst he
        go_wp2_with fail
        refine refRow_ret rfl rfl (x := x) ?_ ?_ HZ.out HC.out
        · simpa using ((((HBK.out.set 0 (.int .i64 x.pid)).set 1 (.int .i64 x.epoch)).set 2 (.int .i64 x.state)).set 3 (.int .i64 x.parts)).set 4 (.int .i64 x.last)
        · exact ((((HB.out.setCell (by simp) _).setCell (by simp) _).setCell (by simp) _).setCell (by simp) _).setCell (by simp) _
      · have hd : decide (x.pid = pid) = false := decide_eq_false he
        have hb9 : (x.pid == pid) = false := by simpa using he
        have hno2 : ∀ y ∈ l.take (k + 1), y.pid ≠ pid := by
          intro y hy
          rw [List.take_add_one, HX.out] at hy
          rcases List.mem_append.1 hy with hy | hy
          · exact HNO.out y hy
          · simp only [Option.toList_some, List.mem_singleton] at hy
            subst hy; exact he
        have HNO2 := hid hno2
        clear hno2
        go_wp2_with fail
        go_roundw
        case rel => exact ⟨k + 1, by omega, by go_num, HB.out, HBK.out, HNO2.out⟩
        case measure => simp [intOf]; omega
    · obtain rfl : k = l.length := by omega
      have hro := rowOf_no (l := l) (pid := pid) (by have := HNO.out; rw [List.take_length] at this; exact this)
      have hz : rowZ l pid = ⟨0, 0, 0, 0, 0⟩ := by unfold rowZ; rw [hro]; rfl
      have hc : rowC l pid = 3 := by unfold rowC; rw [hro]
      have HZ := hid hz
      have HC := hid hc
      clear hro hz hc
      go_wp2_with fail
      refine refRow_ret rfl rfl (x := ⟨0, 0, 0, 0, 0⟩) ?_ ?_ HZ.out HC.out
      · simpa using ((((HBK.out.set 0 (.int .i64 0)).set 1 (.int .i64 0)).set 2 (.int .i64 0)).set 3 (.int .i64 0)).set 4 (.int .i64 0)
      · exact ((((HB.out.setCell (by simp) _).setCell (by simp) _).setCell (by simp) _).setCell (by simp) _).setCell (by simp) _
end Go.Proofs.YtbnefpdjcbegpaaGreatDoor

namespace Go.Proofs.YtbnefpdjcbegpaaGreatDoor
open Go.RowKit

def cdArr (x : CDeed) (ep : Int) (K : Value) : Array Value := #[.int .i64 x.kind, .int .i64 x.pid, .int .i64 ep, .int .i64 x.parts, .bool x.yes, .bool x.near, K]

/-- The epoch that a deed is aimed at. -/
def aimE (x : CDeed) (s : List PTr) : Int := if x.near = true ∧ rowC s x.pid = 0 then wrap64 ((rowZ s x.pid).epoch - bits BinOp.and IntKind.i64 x.epoch 1) else x.epoch

def AimedPost (w : World) (x : CDeed) (ep : Int) (K : Value) (e : Ending) (w' : World) : Prop := e = .returned (.agg (cdArr x ep K)) ∧ Below w.heap.size w w'

set_option maxHeartbeats 1000000 in
theorem aimed_ret {w w1 : World} {p : Nat} {x : CDeed} {ep : Int} {K : Value} {tm : Array Value} (hp : tm[4]? = some (.pointer (some ⟨p, 0, none⟩))) (hb : Blk w1 p (cdArr x ep K) 49) (hB : Below w.heap.size w w1) :
    bodyPost Tryz.prog Tryz.f39 (AimedPost w x ep K) .ret { tmps := tm, defers := [] } w1 := by
  unfold cdArr at hb
  have c0 := hb.cell (i := 0) (v := .int .i64 x.kind) rfl
  have c1 := hb.cell (i := 1) (v := .int .i64 x.pid) rfl
  have c2 := hb.cell (i := 2) (v := .int .i64 ep) rfl
  have c3 := hb.cell (i := 3) (v := .int .i64 x.parts) rfl
  have c4 := hb.cell (i := 4) (v := .bool x.yes) rfl
  have c5 := hb.cell (i := 5) (v := .bool x.near) rfl
  have c6 := hb.cell (i := 6) (v := K) rfl
  refine bodyPost_ret (v := .agg (cdArr x ep K)) (by simp [results, Tryz.results39, go_sem, hp, c0, c1, c2, c3, c4, c5, c6, cdArr]) rfl ⟨rfl, hB⟩

set_option maxHeartbeats 4000000 in
theorem aimed_any {w : World} {v : Value} {s : List PTr} (x : CDeed) (ka : Option Addr) (kn kc : Nat) (h : Reads w v s.length 5 (trCells s)) (hl : s.length ≤ 1000000) :
    Calls Tryz.prog 39 #[.agg #[.int .i64 x.kind, .int .i64 x.pid, .int .i64 x.epoch, .int .i64 x.parts, .bool x.yes, .bool x.near, .slice ka kn kc], v] w (AimedPost w x (aimE x s) (.slice ka kn kc)) := by
  obtain ⟨ae, hae⟩ : ∃ ae, aimE x s = ae := ⟨_, rfl⟩
  rw [hae]
  unfold aimE at hae
  have HR := hid h
  have hb1 : Below w.heap.size w (w.alloc (.cells #[.int .i64 x.kind, .int .i64 x.pid, .int .i64 x.epoch, .int .i64 x.parts, .bool x.yes, .bool x.near, .slice ka kn kc] 49)) := bel_alloc (Below.refl _ _) _
  have hk1 := Blk.new w #[.int .i64 x.kind, .int .i64 x.pid, .int .i64 x.epoch, .int .i64 x.parts, .bool x.yes, .bool x.near, .slice ka kn kc] 49
  have HB1 := hid hb1
  have HK1 := hid hk1
  clear h hb1 hk1
  go_enter Tryz.func39, Tryz.ntmps39
  have HB2 := hid (bel_alloc HB1.out (.cells #[.int .i64 0, .int .i64 0, .int .i64 0, .int .i64 0, .bool false, .bool false, .slice none 0 0] 49))
  have HK2 := hid (HK1.out.alloc (.cells #[.int .i64 0, .int .i64 0, .int .i64 0, .int .i64 0, .bool false, .bool false, .slice none 0 0] 49))
  have HZ2 := hid (Blk.new (w.alloc (.cells #[.int .i64 x.kind, .int .i64 x.pid, .int .i64 x.epoch, .int .i64 x.parts, .bool x.yes, .bool x.near, .slice ka kn kc] 49)) #[.int .i64 0, .int .i64 0, .int .i64 0, .int .i64 0, .bool false, .bool false, .slice none 0 0] 49)
  go_wp2_with fail
  refine (refRow_any x.pid (HR.out.below HB2.out) hl).mono ?_
  rintro e w2 ⟨rfl, hb2⟩
  obtain ⟨t, ht⟩ : ∃ t, rowZ s x.pid = t := ⟨_, rfl⟩
  obtain ⟨cc, hcc⟩ : ∃ cc, rowC s x.pid = cc := ⟨_, rfl⟩
  rw [ht, hcc] at hae ⊢
  have HAE := hid hae
  clear hae
  unfold PTr.val
  have hbT : Below w2.heap.size w2 (w2.alloc (.cells #[.int .i64 t.pid, .int .i64 t.epoch, .int .i64 t.state, .int .i64 t.parts, .int .i64 t.last] 28)) := bel_alloc (Below.refl _ _) _
  have HB3 := hid (bel_next (bel_next HB2.out hb2) hbT)
  have HK3 := hid ((HK2.out.below' hb2).below' hbT)
  have HZ3 := hid ((HZ2.out.below' hb2).below' hbT)
  have HT3 := hid (Blk.new w2 #[.int .i64 t.pid, .int .i64 t.epoch, .int .i64 t.state, .int .i64 t.parts, .int .i64 t.last] 28)
  clear hb2 hbT HB1 HB2 HK1 HK2 HZ2 HR ht hcc
  have hq : (w.alloc (.cells #[.int .i64 x.kind, .int .i64 x.pid, .int .i64 x.epoch, .int .i64 x.parts, .bool x.yes, .bool x.near, .slice ka kn kc] 49)).heap.size = w.heap.size + 1 := by simp
  rw [hq] at HZ3
  have k0 := HK3.out.cell (i := 0) (v := .int .i64 x.kind) rfl
  have k1 := HK3.out.cell (i := 1) (v := .int .i64 x.pid) rfl
  have k2 := HK3.out.cell (i := 2) (v := .int .i64 x.epoch) rfl
  have k3 := HK3.out.cell (i := 3) (v := .int .i64 x.parts) rfl
  have k4 := HK3.out.cell (i := 4) (v := .bool x.yes) rfl
  have k5 := HK3.out.cell (i := 5) (v := .bool x.near) rfl
  have k6 := HK3.out.cell (i := 6) (v := .slice ka kn kc) rfl
  have z0 := HZ3.out.cell (i := 0) (v := .int .i64 0) rfl
  have z1 := HZ3.out.cell (i := 1) (v := .int .i64 0) rfl
  have z2 := HZ3.out.cell (i := 2) (v := .int .i64 0) rfl
  have z3 := HZ3.out.cell (i := 3) (v := .int .i64 0) rfl
  have z4 := HZ3.out.cell (i := 4) (v := .bool false) rfl
  have z5 := HZ3.out.cell (i := 5) (v := .bool false) rfl
  have z6 := HZ3.out.cell (i := 6) (v := .slice none 0 0) rfl
  have t1 := HT3.out.cell (i := 1) (v := .int .i64 t.epoch) rfl
  have fk := HK3.out.free 2
  have f0 := HZ3.out.free 0
  have f1 := HZ3.out.free 1
  have f2 := HZ3.out.free 2
  have f3 := HZ3.out.free 3
  have f4 := HZ3.out.free 4
  have f5 := HZ3.out.free 5
  have f6 := HZ3.out.free 6
  clear hq
  by_cases hnr : x.near = true
  · rw [hnr] at k5
    by_cases hc : cc = 0
    · subst hc
      have hq2 := HAE.out
      rw [if_pos ⟨hnr, rfl⟩] at hq2
      subst hq2
      go_wp2_with fail
      refine aimed_ret (ep := wrap64 (t.epoch - bits BinOp.and IntKind.i64 x.epoch 1)) rfl ?_ ?_
      · have hf := (Fr.refl (fun k => k = w.heap.size) (w2.alloc (.cells #[.int .i64 t.pid, .int .i64 t.epoch, .int .i64 t.state, .int .i64 t.parts, .int .i64 t.last] 28))).setCell (p := ⟨w.heap.size, 2, none⟩) (.inl rfl) (.int .i64 (wrap64 (t.epoch - bits BinOp.and IntKind.i64 x.epoch 1)))
        have h8 := HZ3.out.fr hf (fun h9 => by omega)
        have h9 := ((((((h8.set 0 (.int .i64 x.kind)).set 1 (.int .i64 x.pid)).set 2 (.int .i64 (wrap64 (t.epoch - bits BinOp.and IntKind.i64 x.epoch 1)))).set 3 (.int .i64 x.parts)).set 4 (.bool x.yes)).set 5 (.bool x.near)).set 6 (.slice ka kn kc)
        rw [hnr] at h9
        simpa [cdArr, hnr] using h9
      · exact (((((((HB3.out.setCell (by simp) _).setCell (by simp) _).setCell (by simp) _).setCell (by simp) _).setCell (by simp) _).setCell (by simp) _).setCell (by simp) _).setCell (by simp) _
    · have hz1 : (cc != 0) = true := by simpa using hc
      have hz2 : decide (cc = 0) = false := decide_eq_false hc
      have hz3 : (cc == 0) = false := by simpa using hc
      have hq2 := HAE.out
      rw [if_neg (fun h9 => hc h9.2)] at hq2
      subst hq2
      go_wp2_with fail
      refine aimed_ret (ep := x.epoch) rfl ?_ ?_
      · have h9 := ((((((HZ3.out.set 0 (.int .i64 x.kind)).set 1 (.int .i64 x.pid)).set 2 (.int .i64 x.epoch)).set 3 (.int .i64 x.parts)).set 4 (.bool x.yes)).set 5 (.bool x.near)).set 6 (.slice ka kn kc)
        rw [hnr] at h9
        simpa [cdArr, hnr] using h9
      · exact ((((((HB3.out.setCell (by simp) _).setCell (by simp) _).setCell (by simp) _).setCell (by simp) _).setCell (by simp) _).setCell (by simp) _).setCell (by simp) _
  · have hnr : x.near = false := by simpa using hnr
    rw [hnr] at k5
    have hq2 := HAE.out
    rw [if_neg (fun h9 => by rw [hnr] at h9; cases h9.1)] at hq2
    subst hq2
    go_wp2_with fail
    refine aimed_ret (ep := x.epoch) rfl ?_ ?_
    · have h9 := ((((((HZ3.out.set 0 (.int .i64 x.kind)).set 1 (.int .i64 x.pid)).set 2 (.int .i64 x.epoch)).set 3 (.int .i64 x.parts)).set 4 (.bool x.yes)).set 5 (.bool x.near)).set 6 (.slice ka kn kc)
      rw [hnr] at h9
      simpa [cdArr, hnr] using h9
    · exact ((((((HB3.out.setCell (by simp) _).setCell (by simp) _).setCell (by simp) _).setCell (by simp) _).setCell (by simp) _).setCell (by simp) _).setCell (by simp) _
end Go.Proofs.YtbnefpdjcbegpaaGreatDoor

namespace Go.Proofs.YtbnefpdjcbegpaaGreatDoor
open Go.RowKit

/-- The time is set. -/
theorem CoAt.now_to {w : World} {c l : Nat} {S : Nat → Prop} {C : PCo} (h : (coThing c l).held w S C) (z : Int) :
    (coThing c l).to w (w.setCell ⟨c, 11, none⟩ (.int .i64 z)) S { C with now := z } := by
  obtain ⟨rv, hrep, hS⟩ := h
  have hf : Fr (fun k => k = c) w (w.setCell ⟨c, 11, none⟩ (.int .i64 z)) := (Fr.refl (fun k => k = c) w).setCell (p := ⟨c, 11, none⟩) (.inl rfl) _
  have hd := hrep.due
  refine ⟨S, ⟨rv, ⟨?_, row_fr hrep.rows hf (fun k hk e => ?_), hd⟩, hS⟩, hf.mono (fun k _ hk => (hS k).2 (.inl hk)), fun k hk => .inl hk⟩
  · have h9 := hrep.hdr.set 11 (.int .i64 z)
    have e : (coCells l rv C).toArray.setIfInBounds 11 (.int .i64 z) = (coCells l rv { C with now := z }).toArray := by
      unfold coCells
      rw [List.setIfInBounds_toArray]
      congr 1
      rw [List.set_append_right _ _ (by simp; omega)]
      simp [hd]
    rw [e] at h9
    exact h9
  · subst e
    obtain ⟨cs, hc⟩ := row_blk9 hrep.rows hk
    have := (hc.inj hrep.hdr).2
    exact absurd this (by decide)

def lateOf (C : PCo) (l : List PTr) : List Int := (l.filter fun t => t.state == 2 && decide (C.due.getD t.pid.toNat 0 ≤ C.now)).map PTr.pid
theorem lateOf_all (C : PCo) : lateOf C C.rows = C.late := rfl

section
variable {w : World} {c l d : Nat} {S SL SD : Nat → Prop} {C : PCo} {A : ALog} {D : PDisk}

def TickPost (c l : Nat) (w : World) (d : Nat) (S SL SD : Nat → Prop) (C : PCo) (L : PLog) (D : PDisk) (e : Ending) (w' : World) : Prop :=
  ∃ v, e = .returned v ∧ TrioTo (coThing c l) w w' l d S SL SD C L D ∧ w'.ownsRow w.heap.size 3 1 v C.late.length (C.late.map (Value.int .i64))

set_option maxHeartbeats 4000000 in
theorem coTick_any (h : Trio (coThing c l) w l d S SL SD C A.toP D) (hr : TRight C.rows) (hn : 0 ≤ C.now ∧ C.now ≤ 1000000) :
    Calls Tryz.prog 14 #[.pointer (some ⟨c, 0, none⟩)] w (TickPost c l w d S SL SD C.tick A.toP D) := by
  obtain ⟨i0, hi0, hz0, hz1, hz2⟩ := info_parts Tryz.infoInt
  have hl8 := hr.len
  obtain ⟨rv, hrep⟩ := CoAt.rep h.obj
  have y11 := hrep.now_at
  have f11 := hrep.hdr.free 11
  obtain ⟨hn1, hn2⟩ := hn
  have hto : TrioTo (coThing c l) w (w.setCell ⟨c, 11, none⟩ (.int .i64 (C.now + 1))) l d S SL SD C.tick A.toP D := h.obj_to (CoAt.now_to h.obj (C.now + 1))
  have HTO := hid hto
  have HTR := hid hr
  clear hrep h hr hto
  go_enter Tryz.func14, Tryz.ntmps14
  go_upto_region 4 with fail
  generalize w.setCell ⟨c, 11, none⟩ (.int .i64 (C.now + 1)) = w1 at HTO ⊢
  clear y11 f11
  obtain ⟨S1, SL1, SD1, ha1, _⟩ := HTO.out.split
  obtain ⟨rv1, hrep1⟩ := CoAt.rep ha1.1.obj
  obtain ⟨va, vcp, rfl⟩ := row_slice hrep1.rows
  have y1 := hrep1.c0.2
  have HROW := hid hrep1.rows
  have hsz1 := ha1.2.1.size
  have hrl : C.tick.rows = C.rows := rfl
  have HREP1 := hid hrep1
  rw [hrl] at HROW y1
  clear ha1 hrep1
  go_wp2_with fail
  go_loopw [20, 3] (fun j' v wr => ∃ (k : Nat), k ≤ C.rows.length ∧ j' = .int .i64 k ∧ Below w1.heap.size w1 wr ∧ wr.ownsRow w1.heap.size 3 1 v (lateOf C.tick (C.rows.take k)).length ((lateOf C.tick (C.rows.take k)).map (Value.int .i64))) (fun j' _ _ => C.rows.length - (intOf j').toNat)
  case atStart => exact ⟨0, Nat.zero_le _, rfl, Below.refl _ _, World.ownsRow_nil _ _ _ _⟩
  case round =>
    obtain ⟨k, hk, rfl, hb, hown⟩ := hrel
    have HB := hid hb
    have HOWN := hid hown
    clear hb hown
    by_cases hlt : k < C.rows.length
    · obtain ⟨x, hx⟩ : ∃ x, C.rows[k]? = some x := ⟨_, List.getElem?_eq_getElem hlt⟩
      obtain ⟨ga, rfl, a0, a1, a2, a3, a4⟩ := trReads ((Reads.of_own HROW.out).below HB.out) hx
      have hx8 := (HTR.out.all x (List.mem_of_getElem? hx)).1
      obtain ⟨p, hp⟩ : ∃ p : Nat, x.pid = p := ⟨x.pid.toNat, by omega⟩
      have hp9 : p < 9 := by omega
      obtain ⟨xp, xe, xs, xq, xl⟩ := x
      dsimp only at hp a0 a1 a2 a3 a4
      subst hp
      clear hx8
      have hbx : Below w1.heap.size w1 (wr.alloc (.cells #[.int .i64 (p : Int), .int .i64 xe, .int .i64 xs, .int .i64 xq, .int .i64 xl] 28)) := bel_alloc HB.out _
      have hkx := Blk.new wr #[.int .i64 (p : Int), .int .i64 xe, .int .i64 xs, .int .i64 xq, .int .i64 xl] 28
      have hown2 := HOWN.out.alloc (.cells #[.int .i64 (p : Int), .int .i64 xe, .int .i64 xs, .int .i64 xq, .int .i64 xl] 28)
      have hcl := HREP1.out.hdr.lt
      have x0 := hkx.cell (i := 0) (v := .int .i64 (p : Int)) rfl
      have x2 := hkx.cell (i := 2) (v := .int .i64 xs) rfl
      have u2 := (hbx.cell (p := ⟨c, 2 + p, none⟩) hcl).trans (HREP1.out.due_at hp9)
      have u3 := (hbx.cell (p := ⟨c, 11, none⟩) hcl).trans HREP1.out.now_at
      have hlate : lateOf C.tick (C.rows.take (k + 1)) = lateOf C.tick (C.rows.take k) ++ lateOf C.tick [⟨p, xe, xs, xq, xl⟩] := by
        unfold lateOf
        rw [List.take_add_one, hx, List.filter_append, List.map_append]
        rfl
      have HLATE := hid hlate
      have hll : (lateOf C.tick (C.rows.take k)).length ≤ 8 := by
        unfold lateOf
        rw [List.length_map]
        have h9 := List.length_filter_le (fun t : PTr => t.state == 2 && decide (C.tick.due.getD t.pid.toNat 0 ≤ C.tick.now)) (C.rows.take k)
        rw [List.length_take] at h9
        omega
      have HBX := hid hbx
      have HKX := hid hkx
      have HOWN2 := hid hown2
      obtain ⟨du, hdu⟩ : ∃ du, C.tick.due.getD p 0 = du := ⟨_, rfl⟩
      obtain ⟨nw, hnw⟩ : ∃ nw, C.tick.now = nw := ⟨_, rfl⟩
      rw [hdu] at u2
      rw [hnw] at u3
      have hl1 : lateOf C.tick [⟨p, xe, xs, xq, xl⟩] = if xs = 2 ∧ du ≤ nw then [(p : Int)] else [] := by
        unfold lateOf
        simp only [List.filter_cons, List.filter_nil, Int.toNat_natCast, hdu, hnw]
        by_cases h1 : xs = 2 <;> by_cases h2 : du ≤ nw <;> simp [h1, h2]
      have HL1 := hid hl1
      clear hx hbx hkx hown2 hlate hl1 hdu hnw hcl HOWN
      by_cases hst : xs = 2
      · by_cases hdn : du ≤ nw
        · have hd2 : decide (du ≤ nw) = true := decide_eq_true hdn
          subst hst
          have hb2 : ((2 : Int) == 2) = true := rfl
          have hp0' : (0 : Int) ≤ (p : Int) := by omega
          have hp1' : (p : Int) < 9 := by omega
          go_wp2_with fail
          refine wp_region_lex (fun w' => w'.cell? ⟨wr.heap.size, 2, none⟩ = some (.int .i64 2) ∧ w'.cell? ⟨wr.heap.size, 0, none⟩ = some (.int .i64 p) ∧ w'.cell? ⟨c, 2 + p, none⟩ = some (.int .i64 du) ∧ w'.cell? ⟨c, 11, none⟩ = some (.int .i64 nw)) [] (by kernel_rfl) (by kernel_rfl) (fun _ _ _ _ _ h => h) (by go_keep) (fun hHeld => ?_)
          iterate 17
            refine lex_take (v := ?_) (by kernel_rfl) (by kernel_rfl) ?_ ?_
            rotate_left
            focus
              intro w' hSw
              try dsimp only at hSw
              go_simp <;> with_reducible rfl
            simp only [Act.put, List.setIfInBounds_toArray, List.set_cons_zero, List.set_cons_succ]
          refine lex_nil ?_
          clear hHeld
          have hownD := own_bel HOWN2.out (Below.refl _ _).drew
          have HOWND := hid hownD
          clear hownD HOWN2
          go_wp2_with (at_builtin; refine wpList_append_own _ rfl _ _ 36 rfl w1.heap.size 3 i0 (.int .i64 0) 1 8 Tryz.underlying36 hi0 hz0 hz1 hz2 rfl (by decide) _ _ _ rfl (HOWND.out.alloc _) ⟨wr.heap.size + 1, 0, none⟩ 1 1 [.int .i64 p] rfl rfl ?c1 ?c2 ?c3 ?c4 ?c5 ?_)
          case c1 =>
            intro j u hj
            obtain rfl : j = 0 := by have := (List.getElem?_eq_some_iff.1 hj).1; simp at this; omega
            simp only [List.getElem?_cons_zero, Option.some.injEq] at hj
            subst hj
            simp [Addr.add]
          case c2 => simp [Value.oneCell']
          case c3 => unfold maxLen; omega
          case c4 => omega
          case c5 => have := HB.out.size; simp; omega
          intro v' w9 hown1 hgrow _
          have hb9 : Below w1.heap.size w1 w9 := bel_append (bel_alloc HBX.out.drew _) (HOWND.out.alloc _) (by have := HB.out.size; simp; omega) hgrow
          have hl2 := HLATE.out
          rw [HL1.out, if_pos (by simp [hdn])] at hl2
          have hfin : w9.ownsRow w1.heap.size 3 1 v' (lateOf C.tick (C.rows.take (k + 1))).length ((lateOf C.tick (C.rows.take (k + 1))).map (Value.int .i64)) := by
            rw [hl2, List.length_append, List.map_append]
            exact hown1
          have HFIN := hid hfin
          have HB9 := hid hb9
          clear hfin hb9 hown1 hgrow hl2 HOWND HLATE HL1 HBX HKX
          go_wp2_with fail
          go_roundw
          case rel => exact ⟨k + 1, by omega, by go_num, HB9.out, HFIN.out⟩
          case measure => simp [intOf]; omega
        · have hd2 : decide (du ≤ nw) = false := decide_eq_false hdn
          subst hst
          have hb2 : ((2 : Int) == 2) = true := rfl
          have hp0' : (0 : Int) ≤ (p : Int) := by omega
          have hp1' : (p : Int) < 9 := by omega
          go_wp2_with fail
          refine wp_region_lex (fun w' => w'.cell? ⟨wr.heap.size, 2, none⟩ = some (.int .i64 2) ∧ w'.cell? ⟨wr.heap.size, 0, none⟩ = some (.int .i64 p) ∧ w'.cell? ⟨c, 2 + p, none⟩ = some (.int .i64 du) ∧ w'.cell? ⟨c, 11, none⟩ = some (.int .i64 nw)) [] (by kernel_rfl) (by kernel_rfl) (fun _ _ _ _ _ h => h) (by go_keep) (fun hHeld => ?_)
          iterate 17
            refine lex_take (v := ?_) (by kernel_rfl) (by kernel_rfl) ?_ ?_
            rotate_left
            focus
              intro w' hSw
              try dsimp only at hSw
              go_simp <;> with_reducible rfl
            simp only [Act.put, List.setIfInBounds_toArray, List.set_cons_zero, List.set_cons_succ]
          refine lex_nil ?_
          clear hHeld
          have hl2 := HLATE.out
          rw [HL1.out, if_neg (by simp [hdn]), List.append_nil] at hl2
          have hfin := own_bel HOWN2.out (Below.refl _ _).drew
          rw [← hl2] at hfin
          have HFIN := hid hfin
          have HB9 := hid HBX.out.drew
          clear hfin hl2 HOWN2 HLATE HL1 HBX HKX
          go_wp2_with fail
          go_roundw
          case rel => exact ⟨k + 1, by omega, by go_num, HB9.out, HFIN.out⟩
          case measure => simp [intOf]; omega
      · have hs1 : decide (xs = 2) = false := decide_eq_false hst
        have hs2 : (xs == 2) = false := by simpa using hst
        go_wp2_with fail
        refine wp_region_lex (fun w' => w'.cell? ⟨wr.heap.size, 2, none⟩ = some (.int .i64 xs) ∧ w'.cell? ⟨wr.heap.size, 0, none⟩ = some (.int .i64 p) ∧ w'.cell? ⟨c, 2 + p, none⟩ = some (.int .i64 du) ∧ w'.cell? ⟨c, 11, none⟩ = some (.int .i64 nw)) [] (by kernel_rfl) (by kernel_rfl) (fun _ _ _ _ _ h => h) (by go_keep) (fun hHeld => ?_)
        iterate 4
          refine lex_take (v := ?_) (by kernel_rfl) (by kernel_rfl) ?_ ?_
          rotate_left
          focus
            intro w' hSw
            try dsimp only at hSw
            go_simp <;> with_reducible rfl
          simp only [Act.put, List.setIfInBounds_toArray, List.set_cons_zero, List.set_cons_succ]
        iterate 12
          refine lex_skip (by kernel_rfl) ?_
          simp only [Act.put, List.setIfInBounds_toArray, List.set_cons_zero, List.set_cons_succ]
        iterate 1
          refine lex_take (v := ?_) (by kernel_rfl) (by kernel_rfl) ?_ ?_
          rotate_left
          focus
            intro w' hSw
            try dsimp only at hSw
            go_simp <;> with_reducible rfl
          simp only [Act.put, List.setIfInBounds_toArray, List.set_cons_zero, List.set_cons_succ]
        refine lex_nil ?_
        clear hHeld
        have hl2 := HLATE.out
        rw [HL1.out, if_neg (by simp [hst]), List.append_nil] at hl2
        have hfin := own_bel HOWN2.out (Below.refl _ _).drew
        rw [← hl2] at hfin
        have HFIN := hid hfin
        have HB9 := hid HBX.out.drew
        clear hfin hl2 HOWN2 HLATE HL1 HBX HKX
        go_wp2_with fail
        go_roundw
        case rel => exact ⟨k + 1, by omega, by go_num, HB9.out, HFIN.out⟩
        case measure => simp [intOf]; omega
    · obtain rfl : k = C.rows.length := by omega
      have hown := HOWN.out
      rw [List.take_length] at hown
      have HTT := hid (HTO.out.then_below HB.out)
      have HOWN2 := hid (own_base hown hsz1)
      clear hown HOWN
      go_wp2_with fail
      go_ret
      exact ⟨_, rfl, HTT.out, HOWN2.out⟩
end
end Go.Proofs.YtbnefpdjcbegpaaGreatDoor

namespace Go.Proofs.YtbnefpdjcbegpaaGreatDoor
open Go.RowKit

/-- What a deed comes to, the epoch being ep. -/
def PCo.does (C : PCo) (L : PLog) (D : PDisk) (x : CDeed) (ep : Int) : CRes :=
  if x.kind = 0 then C.init L D x.pid
  else if x.kind = 1 ∨ x.kind = 2 ∨ x.kind = 3 then C.add L D x.pid ep x.parts
  else if x.kind = 4 ∨ x.kind = 5 then C.fin L D x.pid ep x.yes
  else if x.kind = 6 ∨ x.kind = 7 then C.complete L D x.pid
  else if x.kind = 8 ∨ x.kind = 9 ∨ x.kind = 10 then ⟨C.tick, L, D, 0, 0⟩
  else ⟨C, L, D, 0, 0⟩

/-- Nothing is written, or one note of the producer's is. -/
def CWrote (C : PCo) (L : PLog) (D : PDisk) (pid : Int) (r : CRes) : Prop :=
  (r.C.rows = C.rows ∧ r.L = L ∧ r.D = D) ∨ ∃ n : TNote, n.pid = pid ∧ r.C.rows = (coWrite C.rows L D n).1 ∧ r.L = (coWrite C.rows L D n).2.1 ∧ r.D = (coWrite C.rows L D n).2.2.1

section
variable {C : PCo} {L : PLog} {D : PDisk} {pid : Int}

theorem init_or : CWrote C L D pid (C.init L D pid) := by
  unfold PCo.init
  split
  · exact .inl ⟨rfl, rfl, rfl⟩
  · split
    · exact .inl ⟨rfl, rfl, rfl⟩
    · dsimp only
      split <;> exact .inr ⟨⟨1, pid, 0⟩, rfl, rfl, rfl, rfl⟩

theorem add_or {epoch parts : Int} : CWrote C L D pid (C.add L D pid epoch parts) := by
  unfold PCo.add
  split
  · exact .inl ⟨rfl, rfl, rfl⟩
  · split
    · exact .inl ⟨rfl, rfl, rfl⟩
    · split
      · exact .inl ⟨rfl, rfl, rfl⟩
      · split
        · exact .inl ⟨rfl, rfl, rfl⟩
        · split
          · exact .inl ⟨rfl, rfl, rfl⟩
          · dsimp only
            split <;> exact .inr ⟨⟨2, pid, parts⟩, rfl, rfl, rfl, rfl⟩

theorem fin_or {epoch : Int} {yes : Bool} : CWrote C L D pid (C.fin L D pid epoch yes) := by
  unfold PCo.fin
  dsimp only
  generalize (if yes = true then (3 : Int) else 4) = k
  split
  · exact .inl ⟨rfl, rfl, rfl⟩
  · split
    · exact .inl ⟨rfl, rfl, rfl⟩
    · split
      · exact .inl ⟨rfl, rfl, rfl⟩
      · split
        · exact .inl ⟨rfl, rfl, rfl⟩
        · split
          · exact .inl ⟨rfl, rfl, rfl⟩
          · exact .inr ⟨⟨k, pid, 0⟩, rfl, rfl, rfl, rfl⟩

theorem complete_or : CWrote C L D pid (C.complete L D pid) := by
  unfold PCo.complete
  split
  · exact .inl ⟨rfl, rfl, rfl⟩
  · dsimp only
    split <;> exact .inr ⟨⟨5, pid, 0⟩, rfl, rfl, rfl, rfl⟩

theorem coDoes_or {x : CDeed} {ep : Int} : CWrote C L D x.pid (C.does L D x ep) := by
  unfold PCo.does
  split
  · exact init_or
  · split
    · exact add_or
    · split
      · exact fin_or
      · split
        · exact complete_or
        · split <;> exact .inl ⟨rfl, rfl, rfl⟩
end
end Go.Proofs.YtbnefpdjcbegpaaGreatDoor
