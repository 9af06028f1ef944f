/-
  Deeds: what they read as, and Few: the walk.
  Few: the walk.
  seglog: Append, whatever it is given.
  What made computes; that its numbers stay small.
  What Append's answer says of the entries.
  made: the walk.
  The log that made makes. No conditions.
-/
import Derived.Test.YtnibpknhpjcamaaGreatDoorGEM
import Derived.Deep.RegionHeld3
import Derived.Deep.Slices
import Derived.Deep.DeepCutAuto
import Derived.BigQuiet
import Derived.Deep.QuietTactic
import Derived.Test.YtnibpknhpjcamaaGreatDoorGFM
import Derived.BigRegion
import Derived.Deep.AppendLies
import Derived.Test.YtnibpknhpjcamaaGreatDoorGGM
set_option maxRecDepth 100000
namespace Go.Proofs.YtnibpknhpjcamaaGreatDoor
open Go.RowKit

/-- A slice that came in, read. -/
def InRow (w : World) (v : Value) (n size : Nat) (xs : List Value) : Prop :=
  xs.length = n * size ∧ ∃ ad cap, v = .slice ad n cap ∧ n ≤ cap ∧ cap ≤ maxLen ∧ ∀ j u, xs[j]? = some u → ∃ a, ad = some a ∧ w.cell? (a.add j) = some u

structure PDeed where
  kind : Int
  n : Int
  its : List PItem
  keep : List Int

def keepCells (l : List Int) : List Value := l.map fun z => .int .i64 z

/-- A deed with the values of its slices. -/
structure DCell where
  d : PDeed
  L : Value
  K : Value
def deedCells (q : List DCell) : List Value := q.flatMap fun x => [.int .i64 x.d.kind, .int .i64 x.d.n, x.L, x.K]

def PItem.cut (y : PItem) : PItem := { y with text := y.text.take 1500 }
def PDeed.few (x : PDeed) : PDeed := { x with its := (x.its.take 8).map PItem.cut, keep := x.keep.take 70 }
def fewL (l : List PDeed) : List PDeed := (l.take 50).map PDeed.few

/-- Deeds that came in. -/
def InDeeds (w : World) (v : Value) (l : List PDeed) : Prop :=
  ∃ q : List DCell, q.map DCell.d = l ∧ InRow w v q.length 4 (deedCells q) ∧ ∀ x ∈ q, InRow w x.L x.d.its.length 2 (itemCells x.d.its) ∧ InRow w x.K x.d.keep.length 1 (keepCells x.d.keep) ∧ ∀ y ∈ x.d.its, y.text.length ≤ maxLen

/-- Deeds that Few makes. -/
def OutDeeds (w0 w : World) (base : Nat) (v : Value) (l : List PDeed) : Prop :=
  ∃ q : List DCell, q.map DCell.d = l ∧ w.ownsRow base 68 4 v q.length (deedCells q) ∧ ∀ x ∈ q, w.ownsRow base 58 2 x.L x.d.its.length (itemCells x.d.its) ∧ InRow w0 x.K x.d.keep.length 1 (keepCells x.d.keep)

theorem deedCells_app (a b : List DCell) : deedCells (a ++ b) = deedCells a ++ deedCells b := by unfold deedCells; rw [List.flatMap_append]
theorem itemCells_app (a b : List PItem) : itemCells (a ++ b) = itemCells a ++ itemCells b := by unfold itemCells; rw [List.flatMap_append]

theorem deedCells_at : ∀ (q : List DCell) (i : Nat) (x : DCell), q[i]? = some x → (deedCells q)[i * 4]? = some (.int .i64 x.d.kind) ∧ (deedCells q)[i * 4 + 1]? = some (.int .i64 x.d.n) ∧ (deedCells q)[i * 4 + 2]? = some x.L ∧ (deedCells q)[i * 4 + 3]? = some x.K
  | [], _, _, h => by simp at h
  | y :: q, 0, x, h => by
    simp at h
    subst h
    simp [deedCells]
  | y :: q, i + 1, x, h => by
    have := deedCells_at q i x (by simpa using h)
    have e : deedCells (y :: q) = [.int .i64 y.d.kind, .int .i64 y.d.n, y.L, y.K] ++ deedCells q := rfl
    rw [e, show (i + 1) * 4 = i * 4 + 4 from by omega, show i * 4 + 4 + 1 = (i * 4 + 1) + 4 from by omega, show i * 4 + 4 + 2 = (i * 4 + 2) + 4 from by omega, show i * 4 + 4 + 3 = (i * 4 + 3) + 4 from by omega]
    simpa using this

theorem add_off (a : Addr) (i j : Nat) (hj : j ≠ 0) : a.add (i + j) = ⟨(a.add i).block, (a.add i).off + j, none⟩ := by
  rw [← Go.Deep.add_add]
  generalize a.add i = b
  unfold Addr.add
  simp [hj]

theorem Tryz.infoItem : (Tryz.prog.info? 58).map (fun i => (i.zero, i.size, i.bytes)) = some (some (.agg #[.int .i64 0, .string ⟨#[]⟩]), 2, 24) := by kernel_rfl
theorem Tryz.infoDeed : (Tryz.prog.info? 68).map (fun i => (i.zero, i.size, i.bytes)) = some (some (.agg #[.int .i64 0, .int .i64 0, .slice none 0 0, .slice none 0 0]), 4, 64) := by kernel_rfl
end Go.Proofs.YtnibpknhpjcamaaGreatDoor

namespace Go.Proofs.YtnibpknhpjcamaaGreatDoor
open Go.RowKit

def FewRel (w : World) (q : List DCell) (m : Nat) (c v : Value) (wr : World) : Prop :=
  ∃ (k : Nat) (v1 : Value), k ≤ m ∧ c = .int .i64 k ∧ v1 = v ∧ OutDeeds w wr w.heap.size v1 ((q.take k).map fun x => x.d.few) ∧ Below w.heap.size w wr

set_option maxHeartbeats 1000000 in
theorem few_any {w : World} {v : Value} {l : List PDeed} (h : InDeeds w v l) : Calls Tryz.prog 31 #[v] w fun e w' => ∃ r, e = .returned r ∧ OutDeeds w w' w.heap.size r (fewL l) ∧ Below w.heap.size w w' := by
  obtain ⟨q, rfl, ⟨hxl, ad, cap, rfl, hcap, hmax, hat⟩, hin⟩ := h
  obtain ⟨m, hm⟩ : ∃ m, m = min q.length 50 := ⟨_, rfl⟩
  have hfew : fewL (q.map DCell.d) = (q.take m).map fun x => x.d.few := by
    unfold fewL
    rw [← List.map_take, List.map_map, hm]
    by_cases h : q.length ≤ 50
    · rw [Nat.min_eq_left h, List.take_of_length_le h, List.take_length]; rfl
    · rw [Nat.min_eq_right (by omega)]; rfl
  rw [hfew]
  have HAT := hid hat
  have HIN := hid hin
  clear hat hin hfew hxl
  have hmq : m ≤ q.length := by omega
  have hm50 : m ≤ 50 := by omega
  obtain ⟨i0, hi, hz0, hz1, hz2⟩ := info_parts Tryz.infoItem
  obtain ⟨i1, hi1, hy0, hy1, hy2⟩ := info_parts Tryz.infoDeed
  go_enter Tryz.func31, Tryz.ntmps31
  go_upto_if 11 with fail
  go_cut [0] (fun v0 wx => v0 = .slice ad m cap ∧ wx = w)
  case first =>
    by_cases h50 : q.length ≤ 50
    · obtain rfl : m = q.length := by omega
      have hb2 : decide ((50 : Int) < (q.length : Int)) = false := decide_eq_false (by omega)
      clear hm hm50 hmq
      go_wp2_with fail
      go_meet
      exact ⟨rfl, rfl⟩
    · obtain rfl : m = 50 := by omega
      have hb2 : decide ((50 : Int) < (q.length : Int)) = true := decide_eq_true (by omega)
      clear hm hm50
      go_wp2_with fail
      go_meet
      exact ⟨rfl, rfl⟩
  case rest =>
    obtain ⟨rfl, rfl⟩ := hcut
    rename World => w0
    clear hm hcap
    go_wp2_with fail
    go_loopw [4, 3] (fun c v wr => FewRel w0 q m c v wr) (fun c _ _ => m - (intOf c).toNat)
    case atStart => exact ⟨0, _, by omega, rfl, rfl, ⟨[], rfl, World.ownsRow_nil _ _ _ _, by simp⟩, Below.refl _ _⟩
    case round =>
      obtain ⟨k, v, hk, rfl, rfl, ⟨o, hod, horow, hoall⟩, hb⟩ := hrel
      by_cases hlt : k < m
      · obtain ⟨x, hx⟩ : ∃ x, q[k]? = some x := ⟨_, List.getElem?_eq_getElem (by omega)⟩
        obtain ⟨e0, e1, e2, e3⟩ := deedCells_at q k x hx
        obtain ⟨a, rfl, c0⟩ := HAT.out _ _ e0
        obtain ⟨a', ha', c1⟩ := HAT.out _ _ e1
        obtain rfl : a = a' := by injection ha'
        obtain ⟨a', ha', c2⟩ := HAT.out _ _ e2
        obtain rfl : a = a' := by injection ha'
        obtain ⟨a', ha', c3⟩ := HAT.out _ _ e3
        obtain rfl : a = a' := by injection ha'
        have HX := hid hx
        have HO := hid (And.intro hod (And.intro horow hoall))
        have HB := hid hb
        obtain ⟨⟨_, la, lc, hL, hlc, hlm, hlat⟩, ⟨_, ka, kc, hK, hkc, hkm, hkat⟩, hty⟩ := HIN.out x (List.mem_of_getElem? hx)
        clear hx hod horow hoall hb ha' e0 e1 e2 e3
        obtain ⟨xd, xL, xK⟩ := x
        simp only at hL hK c2 c3 c0 c1 hlat hkat hty hlc hkc
        subst hL hK
        have d0 := (HB.out.cell (p := a.add (k * 4)) (World.block_lt_of_cell? w0 _ c0)).trans c0
        have d1 := (HB.out.cell (p := a.add (k * 4 + 1)) (World.block_lt_of_cell? w0 _ c1)).trans c1
        rw [add_off a (k * 4) 1 (by decide)] at d1
        have d2 := (HB.out.cell (p := a.add (k * 4 + 2)) (World.block_lt_of_cell? w0 _ c2)).trans c2
        rw [add_off a (k * 4) 2 (by decide)] at d2
        have d3 := (HB.out.cell (p := a.add (k * 4 + 3)) (World.block_lt_of_cell? w0 _ c3)).trans c3
        rw [add_off a (k * 4) 3 (by decide)] at d3
        obtain ⟨ml, hml⟩ : ∃ ml, ml = min xd.its.length 8 := ⟨_, rfl⟩
        have hml8 : ml ≤ 8 := by omega
        have hmll : ml ≤ xd.its.length := by omega
        clear c0 c1 c2 c3
        have HLAT := hid hlat
        have HKAT := hid hkat
        have HTY := hid hty
        clear hlat hkat hty
        have HML := hid hml
        clear hml
        go_upto_if 27 with fail
        go_cut [30] (fun _ wx => wx = wr.alloc (.cells #[.int .i64 xd.kind, .int .i64 xd.n, .slice la ml lc, .slice ka xd.keep.length kc] 68))
        case first =>
          by_cases h8 : xd.its.length ≤ 8
          · obtain rfl : ml = xd.its.length := by have := HML.out; omega
            have hb2 : decide ((8 : Int) < (xd.its.length : Int)) = false := decide_eq_false (by omega)
            
            go_wp2_with fail
            go_meet
            rfl
          · obtain rfl : ml = 8 := by have := HML.out; omega
            have hb2 : decide ((8 : Int) < (xd.its.length : Int)) = true := decide_eq_true (by omega)
            go_wp2_with fail
            go_meet
            rfl
        case rest =>
          subst hcut
          have hblk := Blk.new wr #[.int .i64 xd.kind, .int .i64 xd.n, .slice la ml lc, .slice ka xd.keep.length kc] 68
          have hbx : Below w0.heap.size w0 (wr.alloc (.cells #[.int .i64 xd.kind, .int .i64 xd.n, .slice la ml lc, .slice ka xd.keep.length kc] 68)) := bel_alloc HB.out _
          have hbr : Below wr.heap.size wr (wr.alloc (.cells #[.int .i64 xd.kind, .int .i64 xd.n, .slice la ml lc, .slice ka xd.keep.length kc] 68)) := bel_alloc (Below.refl _ _) _
          have hpw := HB.out.size
          have hplt := hblk.lt
          clear d0 d1 d2 d3
          generalize wr.alloc (.cells #[.int .i64 xd.kind, .int .i64 xd.n, .slice la ml lc, .slice ka xd.keep.length kc] 68) = wx at hblk hbx hbr hplt ⊢
          have HO2 : Hid (List.map DCell.d o = List.map (fun x => x.d.few) (List.take k q) ∧ wx.ownsRow w0.heap.size 68 4 v o.length (deedCells o) ∧
              ∀ x ∈ o, wx.ownsRow w0.heap.size 58 2 x.L x.d.its.length (itemCells x.d.its) ∧ InRow w0 x.K x.d.keep.length 1 (keepCells x.d.keep)) :=
            hid ⟨HO.out.1, own_bel HO.out.2.1 hbr, fun x hx => ⟨own_bel (HO.out.2.2 x hx).1 hbr, (HO.out.2.2 x hx).2⟩⟩
          have hov : ∀ b, v.ownBlock = some b → b < wr.heap.size := by
            intro b hb
            obtain ⟨c, fz, hc⟩ := Lib.ownsRow_kind HO.out.2.1 b hb
            exact (Array.getElem?_eq_some_iff.1 hc).1
          have HOV := hid hov
          have HBX := hid hbx
          have HBLK := hid hblk
          clear HO HB hbx hbr hblk hov
          generalize wr.heap.size = p at hplt hpw HBLK HOV ⊢
          go_wp2_with fail
          go_loopw [7, 6] (fun c v wz => ∃ (j : Nat) (v1 : Value), j ≤ ml ∧ c = .int .i64 j ∧ v1 = v ∧ wz.ownsRow wx.heap.size 58 2 v1 j (itemCells ((xd.its.take j).map PItem.cut)) ∧ Below wx.heap.size wx wz) (fun c _ _ => ml - (intOf c).toNat)
          case atStart => exact ⟨0, _, by omega, rfl, rfl, World.ownsRow_nil _ _ _ _, Below.refl _ _⟩
          case round =>
            obtain ⟨j, v2, hj, rfl, rfl, hrow, hbz⟩ := hrel
            have g0 := (hbz.cell (p := ⟨p, 0, none⟩) hplt).trans (HBLK.out.cell (i := 0) (v := .int .i64 xd.kind) rfl)
            have g1 := (hbz.cell (p := ⟨p, 1, none⟩) hplt).trans (HBLK.out.cell (i := 1) (v := .int .i64 xd.n) rfl)
            have g2 := (hbz.cell (p := ⟨p, 2, none⟩) hplt).trans (HBLK.out.cell (i := 2) (v := .slice la ml lc) rfl)
            have g3 := (hbz.cell (p := ⟨p, 3, none⟩) hplt).trans (HBLK.out.cell (i := 3) (v := .slice ka xd.keep.length kc) rfl)
            have HROW := hid hrow
            have HBZ := hid hbz
            clear hrow hbz
            by_cases hjl : j < ml
            · obtain ⟨y, hy⟩ : ∃ y, xd.its[j]? = some y := ⟨_, List.getElem?_eq_getElem (by omega)⟩
              obtain ⟨e0, e1⟩ := itemCells_at xd.its j y hy
              obtain ⟨a2, rfl, c0⟩ := HLAT.out _ _ e0
              obtain ⟨a', ha', c1⟩ := HLAT.out _ _ e1
              obtain rfl : a2 = a' := by injection ha'
              have b0 := (HBX.out.cell (p := a2.add (j * 2)) (World.block_lt_of_cell? w0 _ c0))
              have f0 := ((HBZ.out.cell (p := a2.add (j * 2)) (World.block_lt_of_cell? wx _ (b0.trans c0))).trans b0).trans c0
              have b1 := (HBX.out.cell (p := a2.add (j * 2 + 1)) (World.block_lt_of_cell? w0 _ c1))
              have f1 := ((HBZ.out.cell (p := a2.add (j * 2 + 1)) (World.block_lt_of_cell? wx _ (b1.trans c1))).trans b1).trans c1
              rw [add_off a2 (j * 2) 1 (by decide)] at f1
              have hyl := HTY.out y (List.mem_of_getElem? hy)
              have HY := hid hy
              have HYL := hid hyl
              clear c0 c1 b0 b1 e0 e1 ha' hy hyl
              go_upto_if 47 with fail
              go_cut [50] (fun _ wy => wy = wr.alloc (.cells #[.int .i64 y.n, .string (bs (y.text.take 1500))] 58))
              case first =>
                have hsz : (bs y.text).size = y.text.length := rfl
                by_cases h15 : y.text.length ≤ 1500
                · have hb3 : ¬ ((1500 : Int) < ((bs y.text).size : Int)) := by omega
                  have hb2 : decide ((1500 : Int) < ((bs y.text).size : Int)) = false := decide_eq_false hb3
                  go_wp2_with fail
                  go_meet
                  rw [List.take_of_length_le h15]
                · have hb3 : ((1500 : Int) < ((bs y.text).size : Int)) := by omega
                  have hb2 : decide ((1500 : Int) < ((bs y.text).size : Int)) = true := decide_eq_true hb3
                  have hb4 : (1500 : Nat) ≤ (bs y.text).size := by omega
                  have hex := extract_take (bs y.text) 1500
                  rw [tl_bs] at hex
                  go_wp2_with fail
                  go_meet
                  rfl
              case rest =>
                subst hcut
                have hst : itemCells ((xd.its.take (j + 1)).map PItem.cut) = itemCells ((xd.its.take j).map PItem.cut) ++ [.int .i64 y.n, .string (bs (y.text.take 1500))] := by
                  rw [List.take_add_one, HY.out, List.map_append, itemCells_app]; rfl
                have HST := hid hst
                have hwx : wx.heap.size ≤ wr.heap.size := HBZ.out.size
                clear hst f0 f1 g0 g1 g2 g3
                go_wp2_with (first
                  | (at_builtin; refine wpList_append_own _ rfl _ _ 63 rfl wx.heap.size 58 i0 (.agg #[.int .i64 0, .string ⟨#[]⟩]) 2 24 Tryz.underlying63 hi hz0 hz1 hz2 rfl (by decide) _ _ _ rfl ((HROW.out.alloc _).alloc _) ⟨wr.heap.size + 1, 0, none⟩ 1 1 [.int .i64 y.n, .string (bs (y.text.take 1500))] rfl rfl ?c1 ?c2 ?c3 ?c4 ?c5 ?_))
                case c1 =>
                  intro j2 y2 hj2
                  have h := cells_new (wr.alloc (.cells #[.int .i64 y.n, .string (bs (y.text.take 1500))] 58)) [.int .i64 y.n, .string (bs (y.text.take 1500))] 58 j2 y2 hj2
                  rw [World.size_alloc] at h
                  exact h
                case c2 => simp [Value.oneCell']
                case c3 => unfold maxLen; omega
                case c4 => omega
                case c5 => simp; omega
                intro v' w1 hown1 hgrow _
                have hbw : Below wx.heap.size wx w1 := bel_append (bel_alloc (bel_alloc HBZ.out _) _) ((HROW.out.alloc _).alloc _) (by simp; omega) hgrow
                have HO1 := hid hown1
                have HBW := hid hbw
                clear hown1 hbw hgrow
                go_wp2_with fail
                go_roundw
                case rel => exact ⟨j + 1, v', by omega, by go_num, rfl, by rw [HST.out, List.map_take]; exact HO1.out, HBW.out⟩
                case measure => simp [intOf]; omega
            · obtain rfl : j = ml := by omega
              obtain ⟨va, vc, rfl⟩ := row_slice HROW.out
              obtain ⟨mk, hmk⟩ : ∃ mk, mk = min xd.keep.length 70 := ⟨_, rfl⟩
              have hmkl : mk ≤ xd.keep.length := by omega
              have HMK := hid hmk
              have gf : ∀ i, wr.frozen? ⟨p, i, none⟩ = false := fun i => (HBZ.out.frozen (p := ⟨p, i, none⟩) hplt).trans (HBLK.out.free i)
              have gf2 := gf 2
              have gf3 := gf 3
              have hbr : Blk wr p #[.int .i64 xd.kind, .int .i64 xd.n, .slice la j lc, .slice ka xd.keep.length kc] 68 := HBLK.out.below' HBZ.out
              have HBR := hid hbr
              clear gf hmk hbr
              go_upto_if 61 with fail
              go_cut [64] (fun _ wy => Blk wy p #[.int .i64 xd.kind, .int .i64 xd.n, .slice va j vc, .slice ka mk kc] 68 ∧ Fr (fun i => i = p) wr wy)
              case first =>
                have HB2 : Hid (Blk (wr.setCell ⟨p, 2, none⟩ (.slice va j vc)) p #[.int .i64 xd.kind, .int .i64 xd.n, .slice va j vc, .slice ka xd.keep.length kc] 68) := hid (by simpa using HBR.out.set 2 (.slice va j vc))
                by_cases h70 : xd.keep.length ≤ 70
                · obtain rfl : mk = xd.keep.length := by have := HMK.out; omega
                  have hb3 : ¬ ((70 : Int) < (xd.keep.length : Int)) := by omega
                  have hb2 : decide ((70 : Int) < (xd.keep.length : Int)) = false := decide_eq_false hb3
                  go_wp2_with fail
                  go_meet
                  exact ⟨HB2.out, (Fr.refl _ _).setCell (S := fun i => i = p) (.inl rfl) _⟩
                · obtain rfl : mk = 70 := by have := HMK.out; omega
                  have hb3 : ((70 : Int) < (xd.keep.length : Int)) := by omega
                  have hb2 : decide ((70 : Int) < (xd.keep.length : Int)) = true := decide_eq_true hb3
                  go_wp2_with fail
                  go_meet
                  exact ⟨by simpa using HB2.out.set 3 (.slice ka 70 kc), ((Fr.refl _ _).setCell (S := fun i => i = p) (.inl rfl) _).setCell (S := fun i => i = p) (.inl rfl) _⟩
              case rest =>
                obtain ⟨hby, hfy⟩ := hcut
                clear g0 g1 g2 g3 gf2 gf3
                have y0 := hby.cell (i := 0) (v := .int .i64 xd.kind) rfl
                have y1 := hby.cell (i := 1) (v := .int .i64 xd.n) rfl
                have y2 := hby.cell (i := 2) (v := .slice va j vc) rfl
                have y3 := hby.cell (i := 3) (v := .slice ka mk kc) rfl
                have HBYp := hid hby
                have HFY := hid hfy
                have horow : wx.ownsRow w0.heap.size 68 4 v o.length (deedCells o) := HO2.out.2.1
                have horow2 := row_fr (own_bel horow HBZ.out) hfy (fun b hb e => by have := HOV.out b hb; have e2 : b = p := e; omega)
                have HOR := hid horow2
                have hol : o.length = k := by
                  have h := congrArg List.length HO2.out.1
                  rw [List.length_map, List.length_map, List.length_take, Nat.min_eq_left (by omega)] at h
                  exact h
                have hwy : wr.heap.size ≤ wc.heap.size := hfy.size
                have hsx := HBZ.out.size
                have hwc : Below w0.heap.size w0 wc := (bel_next HBX.out HBZ.out).trans (hfy.to_below (by omega) (fun b hb e => by have e2 : b = p := e; omega))
                have HWC := hid hwc
                have hitem : ∀ (base : Nat) (L : Value) (n : Nat) (xs : List Value), wr.ownsRow base 58 2 L n xs → wc.ownsRow base 58 2 L n xs := by
                  intro base L n xs h
                  refine row_fr h hfy (fun b hb e => ?_)
                  have e2 : b = p := e
                  subst e2
                  obtain ⟨c, fz, hc⟩ := Lib.ownsRow_kind h b hb
                  have h3 := HBR.out
                  unfold Blk at h3
                  rw [h3] at hc
                  cases hc
                have HIT := hid hitem
                clear hby hfy horow horow2 hwc hitem
                go_wp2_with (first
                  | (at_builtin; refine wpList_append_own _ rfl _ _ 22 rfl w0.heap.size 68 i1 (.agg #[.int .i64 0, .int .i64 0, .slice none 0 0, .slice none 0 0]) 4 64 Tryz.underlying22 hi1 hy0 hy1 hy2 rfl (by decide) _ _ _ rfl (HOR.out.alloc _) ⟨wc.heap.size, 0, none⟩ 1 1 [.int .i64 xd.kind, .int .i64 xd.n, .slice va j vc, .slice ka mk kc] rfl rfl ?c1 ?c2 ?c3 ?c4 ?c5 ?_))
                case c1 =>
                  intro j2 y2 hj2
                  exact cells_new wc [.int .i64 xd.kind, .int .i64 xd.n, .slice va j vc, .slice ka mk kc] 68 j2 y2 hj2
                case c2 => simp [Value.oneCell']
                case c3 => unfold maxLen; omega
                case c4 => omega
                case c5 => simp; omega
                intro v' w1 hown1 hgrow _
                have hbw : Below w0.heap.size w0 w1 := bel_append (bel_alloc HWC.out _) (HOR.out.alloc _) (by simp; omega) hgrow
                have hkeep : InRow w0 (.slice ka mk kc) (xd.keep.take 70).length 1 (keepCells (xd.keep.take 70)) := by
                  have hl : (xd.keep.take 70).length = mk := by rw [List.length_take, HMK.out, Nat.min_comm]
                  refine ⟨by simp [keepCells], ka, kc, by rw [hl], by omega, hkm, fun j u hu => HKAT.out j u ?_⟩
                  unfold keepCells at hu ⊢
                  rw [List.map_take, List.getElem?_take] at hu
                  split at hu
                  · exact hu
                  · cases hu
                have hits : (xd.its.take j).map PItem.cut = xd.few.its := by
                  show (xd.its.take j).map PItem.cut = (xd.its.take 8).map PItem.cut
                  by_cases h8 : xd.its.length ≤ 8
                  · rw [HML.out, Nat.min_eq_left h8, List.take_length, List.take_of_length_le h8]
                  · rw [HML.out, Nat.min_eq_right (by omega)]
                have hfl : xd.few.its.length = j := by rw [← hits, List.length_map, List.length_take]; omega
                have hpost : ∀ (L : Value) (n : Nat) (xs : List Value), wr.ownsRow w0.heap.size 58 2 L n xs → w1.ownsRow w0.heap.size 58 2 L n xs := fun L n xs h => by
                  have h2 := (HIT.out _ _ _ _ h).alloc (.cells #[.int .i64 xd.kind, .int .i64 xd.n, .slice va j vc, .slice ka mk kc] 68)
                  exact h2.kept hgrow (rows_apart h2 (HOR.out.alloc (.cells #[.int .i64 xd.kind, .int .i64 xd.n, .slice va j vc, .slice ka mk kc] 68)) (by decide))
                have hfin : OutDeeds w0 w1 w0.heap.size v' ((q.take (k + 1)).map fun x => x.d.few) := by
                  refine ⟨o ++ [⟨xd.few, .slice va j vc, .slice ka mk kc⟩], ?_, ?_, ?_⟩
                  · rw [List.map_append, HO2.out.1, List.take_add_one, HX.out, List.map_append]; rfl
                  · rw [deedCells_app, List.length_append, hol]; exact hown1
                  · intro x hx
                    rcases List.mem_append.1 hx with hx | hx
                    · exact ⟨hpost _ _ _ (own_bel (HO2.out.2.2 x hx).1 HBZ.out), (HO2.out.2.2 x hx).2⟩
                    · obtain rfl : x = ⟨xd.few, .slice va j vc, .slice ka mk kc⟩ := by simpa using hx
                      refine ⟨?_, hkeep⟩
                      have h := hpost _ _ _ (own_base HROW.out (by omega : w0.heap.size ≤ wx.heap.size))
                      rw [hits] at h
                      rw [hfl]
                      exact h
                have HFIN := hid hfin
                have HBW := hid hbw
                clear hown1 hbw hgrow hkeep hits hfl hpost hfin
                go_wp2_with fail
                go_roundw
                case rel => exact ⟨k + 1, v', by omega, by go_num, rfl, HFIN.out, HBW.out⟩
                case measure => simp [intOf]; omega
      · obtain rfl : k = m := by omega
        have HO := hid (show OutDeeds w0 wr w0.heap.size v ((q.take k).map fun x => x.d.few) from ⟨o, hod, horow, hoall⟩)
        have HB := hid hb
        clear hod horow hoall hb
        go_wp2_with fail
        go_ret
        exact ⟨_, rfl, HO.out, HB.out⟩
end Go.Proofs.YtnibpknhpjcamaaGreatDoor

namespace Go.Proofs.YtnibpknhpjcamaaGreatDoor
open Go.RowKit

theorem log_stays {w : World} {l d : Nat} {S SD : Nat → Prop} {L : PLog} {D : PDisk} (h : LogAt w l d S L) (hd : DiskAt w d SD D) : LogTo w w l d S SD L D := LogTo.of_below h hd (Below.refl _ _)

set_option maxHeartbeats 1000000 in
theorem append_none {w : World} {l d : Nat} {S SD : Nat → Prop} {L : PLog} {D : PDisk} (iv : Value) (h : LogAt w l d S L) (hd : DiskAt w d SD D) (hit : Reads w iv 0 2 []) :
    Calls Tryz.prog 26 #[ptr l, iv] w (AppPost w l d S SD (L.append D [])) := by
  have HL := hid h
  have HD := hid hd
  obtain ⟨_, ad, cap, rfl, _⟩ := hit
  obtain ⟨ms, sv, h, _⟩ := h
  obtain ⟨c0, c1, c2, c3, c4, c5, c6⟩ := h.cells
  clear h hd
  unfold ptr
  go_enter Tryz.func26, Tryz.ntmps26
  go_wp2_with fail
  go_ret2
  exact ⟨rfl, log_stays HL.out HD.out⟩

set_option maxHeartbeats 1000000 in
theorem append_broken {w : World} {l d : Nat} {S SD : Nat → Prop} {L : PLog} {D : PDisk} (iv : Value) (its : List PItem) (h : LogAt w l d S L) (hd : DiskAt w d SD D) (hit : Reads w iv its.length 2 (itemCells its)) (hne : its ≠ []) (he : L.e ≠ 0) :
    Calls Tryz.prog 26 #[ptr l, iv] w (AppPost w l d S SD (L.append D its)) := by
  have HL := hid h
  have HD := hid hd
  obtain ⟨_, ad, cap, rfl, _⟩ := hit
  have hpos : 0 < its.length := List.length_pos_iff.2 hne
  have HA : Hid (L.append D its = (L, D, 0, L.e)) := hid (by unfold PLog.append; rw [if_neg hne, if_pos he])
  obtain ⟨ms, sv, h, _⟩ := h
  obtain ⟨c0, c1, c2, c3, c4, c5, c6⟩ := h.cells
  have hz0 : ((its.length : Int) == 0) = false := beq_eq_false_iff_ne.2 (by omega)
  have hz1 : decide ((its.length : Int) = 0) = false := decide_eq_false (by omega)
  have he2 : (L.e != 0) = true := by simpa using he
  have he3 : (L.e == 0) = false := beq_eq_false_iff_ne.2 he
  have he4 : decide (L.e = 0) = false := decide_eq_false he
  clear h hd hne
  unfold ptr
  go_enter Tryz.func26, Tryz.ntmps26
  go_wp2_with fail
  go_quiet (fail)
  go_wp2_with fail
  go_ret2
  rw [HA.out]
  exact ⟨rfl, LogTo.of_below HL.out HD.out (bel_drewN _ _ _)⟩

theorem append_all {w : World} {l d : Nat} {S SD : Nat → Prop} {L : PLog} {D : PDisk} {N : Int} (iv : Value) (its : List PItem) (h : LogAt w l d S L) (hd : DiskAt w d SD D) (hw : D.WF N) (hwl : L.WF) (hit : Reads w iv its.length 2 (itemCells its)) (hcnt : its.length ≤ 64) (htx : ∀ x ∈ its, x.text.length ≤ 1099511627776) :
    Calls Tryz.prog 26 #[ptr l, iv] w (AppPost w l d S SD (L.append D its)) := by
  by_cases hne : its = []
  · subst hne
    exact append_none iv h hd hit
  · by_cases he : L.e = 0
    · exact append_first iv its h hd hw hwl hit hne he hcnt htx
    · exact append_broken iv its h hd hit hne he
end Go.Proofs.YtnibpknhpjcamaaGreatDoor

namespace Go.Proofs.YtnibpknhpjcamaaGreatDoor
open Go.RowKit

/-- A log behind so many calls. -/
structure PLog.Bd (k : Nat) (L : PLog) : Prop where
  name : L.name.length ≤ 8
  count : L.segs.length ≤ k
  base : ∀ x ∈ L.segs, 0 ≤ x.base ∧ x.base ≤ 1099511627776
  bytes : ∀ x ∈ L.segs, 0 ≤ x.bytes ∧ x.bytes ≤ k * 1000000
  entries : ∀ x ∈ L.segs, 0 ≤ x.entries ∧ x.entries ≤ k * 8
  marks : ∀ x ∈ L.segs, x.marks.length ≤ k * 8 ∧ ∀ y ∈ x.marks, 0 ≤ y.pos ∧ y.pos ≤ x.bytes
  next : 0 ≤ L.next ∧ L.next ≤ 1099511627776

theorem PLog.Bd.wf {k : Nat} {L : PLog} (h : L.Bd k) (hk : k ≤ 1000) : L.WF :=
  ⟨h.name, by have := h.count; omega, h.base, fun x hx => by have := h.bytes x hx; omega, fun x hx => by have := h.entries x hx; omega, fun x hx => ⟨by have := (h.marks x hx).1; omega, (h.marks x hx).2⟩, h.next⟩

theorem PLog.Bd.up {k j : Nat} {L : PLog} (h : L.Bd k) (hk : k ≤ j) : L.Bd j :=
  ⟨h.name, by have := h.count; omega, h.base, fun x hx => by have := h.bytes x hx; omega, fun x hx => by have := h.entries x hx; omega, fun x hx => ⟨by have := (h.marks x hx).1; omega, (h.marks x hx).2⟩, h.next⟩

theorem PLog.Bd.same {k : Nat} {L L' : PLog} (h : L.Bd k) (h1 : L'.name = L.name) (h2 : L'.segs = L.segs) (h3 : L'.next = L.next) : L'.Bd k :=
  ⟨by rw [h1]; exact h.name, by rw [h2]; exact h.count, by rw [h2]; exact h.base, by rw [h2]; exact h.bytes, by rw [h2]; exact h.entries, by rw [h2]; exact h.marks, by rw [h3]; exact h.next⟩

theorem PLog.Bd.sync {k : Nat} {L : PLog} (h : L.Bd k) (D : PDisk) : (L.sync D).1.Bd k := by
  obtain ⟨h1, h2, h3⟩ := L.sync_next D
  exact h.same h3 h2 h1

theorem PLog.Bd.put {k : Nat} {L : PLog} (h : L.Bd k) (D : PDisk) (x : PSeg) (before : List PSeg) (ents : List Ent) (nx : Int) (hn : 0 ≤ nx ∧ nx ≤ 1099511627776) (hok : ∀ e ∈ ents, e.ok) (hlen : ents.length ≤ 8) (hb : before.length ≤ k) (hbs : ∀ y ∈ before, y ∈ L.segs)
    (hx : 0 ≤ x.base ∧ x.base ≤ 1099511627776) (hx1 : 0 ≤ x.bytes ∧ x.bytes ≤ k * 1000000) (hx2 : 0 ≤ x.entries ∧ x.entries ≤ k * 8) (hx3 : x.marks.length ≤ k * 8 ∧ ∀ y ∈ x.marks, 0 ≤ y.pos ∧ y.pos ≤ x.bytes) : (L.put D x before ents nx).1.Bd (k + 1) := by
  have hu := h.up (Nat.le_add_right k 1)
  obtain ⟨n1, n2, n3, n4, n5, n6⟩ := tookAll_num x ents hok hx1.1 hx3.2
  unfold PLog.put
  dsimp only
  split
  · exact hu
  · split
    · exact hu.same rfl rfl rfl
    · refine ⟨h.name, by simp; omega, ?_, ?_, ?_, ?_, hn⟩
      · intro y hy
        rcases List.mem_append.1 hy with hy | hy
        · exact h.base y (hbs y hy)
        · obtain rfl : y = x.tookAll ents := by simpa using hy
          rw [n1]; exact hx
      · intro y hy
        rcases List.mem_append.1 hy with hy | hy
        · exact hu.bytes y (hbs y hy)
        · obtain rfl : y = x.tookAll ents := by simpa using hy
          omega
      · intro y hy
        rcases List.mem_append.1 hy with hy | hy
        · exact hu.entries y (hbs y hy)
        · obtain rfl : y = x.tookAll ents := by simpa using hy
          omega
      · intro y hy
        rcases List.mem_append.1 hy with hy | hy
        · exact hu.marks y (hbs y hy)
        · obtain rfl : y = x.tookAll ents := by simpa using hy
          exact ⟨by omega, n6⟩

theorem PLog.Bd.append {k : Nat} {L : PLog} (h : L.Bd k) (D : PDisk) (its : List PItem) (hl : its.length ≤ 8) : (L.append D its).1.Bd (k + 1) := by
  have hu := h.up (Nat.le_add_right k 1)
  by_cases hne : its = []
  · unfold PLog.append; rw [if_pos hne]; exact hu
  by_cases he : L.e = 0
  case neg => unfold PLog.append; rw [if_neg hne, if_pos he]; exact hu
  by_cases ha : (layAll L.next its []).1 = 0
  case neg => rw [PLog.append_err hne he ha]; exact hu
  obtain ⟨⟨ents, nx⟩, hL⟩ : ∃ r : List Ent × Int, layAll L.next its [] = (0, r.1, r.2) := ⟨(layAll L.next its []).2, by rw [← ha]⟩
  dsimp only at hL
  obtain ⟨h1, h2, h3, h4⟩ := layAll_ok its _ _ _ _ hL
  rw [List.nil_append] at h1
  subst h1
  have hnx : 0 ≤ nx ∧ nx ≤ 1099511627776 := ⟨by have := h3.le; have := h.next; omega, h4 h.next.2⟩
  have hok := h3.ok
  have hlen : (mkEnts L.next its).length ≤ 8 := by rw [mkEnts_len]; exact hl
  have hc := h.count
  rw [PLog.append_ok hne he hL]
  unfold PLog.appendE
  split
  · rename_i x hx
    have hmem : x ∈ L.segs := by
      unfold PLog.act at hx
      split at hx
      · cases hx
      · rename_i y hy
        split at hx
        · injection hx with hx
          subst hx
          exact List.mem_of_getLast? hy
        · cases hx
    exact h.put D x _ _ nx hnx hok hlen (by rw [List.length_dropLast]; omega) (fun y hy => List.dropLast_subset _ hy) (h.base x hmem) (h.bytes x hmem) (h.entries x hmem) (h.marks x hmem)
  · split
    · exact h.put D _ _ _ nx hnx hok hlen (by simp) (fun y hy => by simp at hy) h.next (by simp; omega) (by simp; omega) (by simp)
    · obtain ⟨s1, s2, s3⟩ := L.sync_next D
      dsimp only
      split
      · exact (h.sync D).up (by omega)
      · exact (h.sync D).put _ _ _ _ nx hnx hok hlen (by omega) (fun y hy => by rw [s2]; exact hy) h.next (by simp; omega) (by simp; omega) (by simp)

def callKind (k : Int) : Prop := k = 0 ∨ k = 1 ∨ k = 2 ∨ k = 3
instance (k : Int) : Decidable (callKind k) := by unfold callKind; exact inferInstance

/-- One deed. -/
def madeStep (st : PLog × PDisk × List Ent) (x : PDeed) : PLog × PDisk × List Ent :=
  if callKind x.kind then
    let r := st.1.append st.2.1 x.its
    (r.1, r.2.1, if r.2.2.2 = 0 then st.2.2 ++ mkEnts r.2.2.1 x.its else st.2.2)
  else if x.kind = 4 ∨ x.kind = 5 then
    let r := st.1.sync st.2.1
    (r.1, r.2.1, st.2.2)
  else st

def madeRoom (size : Int) : Int := 20 + ((size.tmod 200 + 200).tmod 200)
def madeL (size : Int) (l : List PDeed) : PLog × PDisk × List Ent := (fewL l).foldl madeStep (⟨[108, 111, 103], [], 0, 0, 0, 0⟩, ⟨[], madeRoom size, -1, false⟩, [])

theorem few_small {l : List PDeed} : ∀ x ∈ fewL l, x.its.length ≤ 8 ∧ ∀ y ∈ x.its, y.text.length ≤ 1500 := by
  intro x hx
  unfold fewL at hx
  obtain ⟨d, _, rfl⟩ := List.mem_map.1 hx
  refine ⟨by simp [PDeed.few]; omega, fun y hy => ?_⟩
  obtain ⟨z, _, rfl⟩ := List.mem_map.1 hy
  simp [PItem.cut]; omega

theorem few_len (l : List PDeed) : (fewL l).length ≤ 50 := by unfold fewL; simp; omega

theorem PLog.append_disk {L : PLog} {D : PDisk} {N : Int} (h : D.WF N) (its : List PItem) : (L.append D its).2.1.WF N := by
  have hput : ∀ (L : PLog) (D : PDisk) (x : PSeg) (b : List PSeg) (e : List Ent) (nx : Int), D.WF N → (L.put D x b e nx).2.1.WF N := by
    intro L D x b e nx hD
    unfold PLog.put
    dsimp only
    split
    · exact hD.append _ _
    · split
      · exact hD.append _ _
      · exact hD.append _ _
  unfold PLog.append
  split
  · exact h
  split
  · exact h
  split
  · exact h
  unfold PLog.appendE
  split
  · exact hput _ _ _ _ _ _ h
  · split
    · exact hput _ _ _ _ _ _ h
    · dsimp only
      split
      · exact PLog.sync_disk h
      · exact hput _ _ _ _ _ _ (PLog.sync_disk h)

theorem made_room (size : Int) : 20 ≤ madeRoom size ∧ madeRoom size ≤ 219 := by
  unfold madeRoom
  have h1 : -200 < size.tmod 200 := by
    by_cases h : 0 ≤ size
    · have := Int.tmod_nonneg (a := size) 200 h; omega
    · have h5 := Int.tmod_lt_of_pos (-size) (b := 200) (by decide)
      rw [Int.neg_tmod] at h5
      omega
  have h2 := Int.tmod_nonneg (a := size.tmod 200 + 200) 200 (by omega)
  have h3 := Int.tmod_lt_of_pos (size.tmod 200 + 200) (b := 200) (by decide)
  omega

/-- What made computes, behind so many deeds. -/
def madeK (size : Int) (l : List PDeed) (k : Nat) : PLog × PDisk × List Ent := ((fewL l).take k).foldl madeStep (⟨[108, 111, 103], [], 0, 0, 0, 0⟩, ⟨[], madeRoom size, -1, false⟩, [])

theorem madeK_succ (size : Int) (l : List PDeed) (k : Nat) {x : PDeed} (h : (fewL l)[k]? = some x) : madeK size l (k + 1) = madeStep (madeK size l k) x := by
  unfold madeK
  rw [List.take_add_one, h, List.foldl_append]
  rfl

theorem madeK_all (size : Int) (l : List PDeed) : madeK size l (fewL l).length = madeL size l := by unfold madeK madeL; rw [List.take_length]

theorem madeK_wf (size : Int) (l : List PDeed) : ∀ k, (madeK size l k).1.Bd k ∧ (madeK size l k).2.1.WF (madeRoom size)
  | 0 => by
    obtain ⟨h1, h2⟩ := made_room size
    refine ⟨⟨by simp [madeK], by simp [madeK], by simp [madeK], by simp [madeK], by simp [madeK], by simp [madeK], by simp [madeK]⟩, ⟨by simp [madeK, Sorted], by simp [madeK], by simp [madeK], ?_, ?_, by omega, by simp [madeK], by simp [madeK]⟩⟩
    · show 0 ≤ madeRoom size; omega
    · show madeRoom size + 0 = madeRoom size; omega
  | k + 1 => by
    obtain ⟨h1, h2⟩ := madeK_wf size l k
    cases hx : (fewL l)[k]? with
    | none =>
      have e : madeK size l (k + 1) = madeK size l k := by unfold madeK; rw [List.take_add_one, hx]; simp
      rw [e]
      exact ⟨h1.up (by omega), h2⟩
    | some x =>
      rw [madeK_succ size l k hx]
      unfold madeStep
      split
      · exact ⟨h1.append _ _ (few_small x (List.mem_of_getElem? hx)).1, PLog.append_disk h2 _⟩
      · split
        · exact ⟨(h1.sync _).up (by omega), PLog.sync_disk h2⟩
        · exact ⟨h1.up (by omega), h2⟩
end Go.Proofs.YtnibpknhpjcamaaGreatDoor

namespace Go.Proofs.YtnibpknhpjcamaaGreatDoor
open Go.RowKit

theorem put_zero {L : PLog} {D : PDisk} {x : PSeg} {b : List PSeg} {e : List Ent} {nx : Int} (h : (L.put D x b e nx).2.2.2 = 0) : (L.put D x b e nx).2.2.1 = headBase e := by
  unfold PLog.put at h ⊢
  dsimp only at h ⊢
  split
  · rename_i h5
    rw [if_pos h5] at h
    simp at h
  · rename_i h5
    rw [if_neg h5] at h
    split
    · rename_i h6
      rw [if_pos h6] at h
      exact absurd h h6
    · rfl

theorem append_zero {L : PLog} {D : PDisk} {its : List PItem} (hn : L.next ≤ 1099511627776) (h : (L.append D its).2.2.2 = 0) :
    (L.append D its).2.2.1 = L.next ∧ Chain L.next (mkEnts L.next its) ∧ endOf L.next (mkEnts L.next its) ≤ 1099511627776 := by
  by_cases hne : its = []
  · unfold PLog.append at h; rw [if_pos hne] at h; simp at h
  by_cases he : L.e = 0
  case neg => unfold PLog.append at h; rw [if_neg hne, if_pos he] at h; exact absurd h he
  by_cases ha : (layAll L.next its []).1 = 0
  case neg => rw [PLog.append_err hne he ha] at h; exact absurd h ha
  obtain ⟨⟨ents, nx⟩, hL⟩ : ∃ r : List Ent × Int, layAll L.next its [] = (0, r.1, r.2) := ⟨(layAll L.next its []).2, by rw [← ha]⟩
  dsimp only at hL
  obtain ⟨h1, h2, h3, h4⟩ := layAll_ok its _ _ _ _ hL
  rw [List.nil_append] at h1
  subst h1
  refine ⟨?_, h3, by rw [← h2]; exact h4 hn⟩
  have hb : headBase (mkEnts L.next its) = L.next := by
    cases its with
    | nil => exact absurd rfl hne
    | cons y r => rfl
  rw [PLog.append_ok hne he hL] at h ⊢
  unfold PLog.appendE at h ⊢
  split
  · rename_i x hx
    rw [hx] at h
    rw [put_zero h, hb]
  · rename_i hx
    rw [hx] at h
    dsimp only at h ⊢
    split
    · rename_i h5
      rw [if_pos h5] at h
      rw [put_zero h, hb]
    · rename_i h5
      rw [if_neg h5] at h
      split
      · rename_i h6
        rw [if_pos h6] at h
        exact absurd h h6
      · rename_i h6
        rw [if_neg h6] at h
        rw [put_zero h, hb]

/-- The sum of so many items. -/
def sumN (l : List PItem) : Int := (l.map PItem.n).sum
theorem mkEnts_snoc (b : Int) (l : List PItem) (y : PItem) : mkEnts b (l ++ [y]) = mkEnts b l ++ [⟨b + sumN l, y.n, y.text⟩] := by
  induction l generalizing b with
  | nil => simp [mkEnts, sumN]
  | cons x r ih =>
    have := ih (b + x.n)
    simp only [List.cons_append, mkEnts, this, sumN, List.map_cons, List.sum_cons, Int.add_assoc]
theorem sumN_snoc (l : List PItem) (y : PItem) : sumN (l ++ [y]) = sumN l + y.n := by unfold sumN; simp [List.sum_append]

/-- Each sum on the way is a number that fits. -/
theorem chain_sum {b : Int} {its : List PItem} (h : Chain b (mkEnts b its)) {j : Nat} {y : PItem} (hy : its[j]? = some y) : 0 ≤ b + sumN (its.take j) ∧ b + sumN (its.take j) ≤ 1099511627776 ∧ 1 ≤ y.n ∧ y.n ≤ 64 := by
  have hs := mkEnts_snoc b (its.take j) y
  have hlt := (List.getElem?_eq_some_iff.1 hy).1
  have ht : its.take j ++ [y] = its.take (j + 1) := by rw [List.take_add_one, hy]; rfl
  have hmem : (⟨b + sumN (its.take j), y.n, y.text⟩ : Ent) ∈ mkEnts b its := by
    have hpre : ∀ (l m : List PItem) (b : Int), ∃ t, mkEnts b (l ++ m) = mkEnts b l ++ t := by
      intro l m
      induction l with
      | nil => intro b; exact ⟨_, rfl⟩
      | cons z r ih => intro b; obtain ⟨t, ht⟩ := ih (b + z.n); exact ⟨t, by simp only [List.cons_append, mkEnts, ht]⟩
    obtain ⟨t, h9⟩ := hpre (its.take (j + 1)) (its.drop (j + 1)) b
    rw [List.take_append_drop] at h9
    rw [h9, ← ht, hs]
    simp
  have hok := h.ok _ hmem
  unfold Ent.ok at hok
  exact ⟨hok.1, hok.2.1, hok.2.2.1, hok.2.2.2.1⟩
theorem madeK_len (size : Int) (l : List PDeed) : ∀ k, (madeK size l k).2.2.length ≤ 8 * k
  | 0 => by simp [madeK]
  | k + 1 => by
    have ih := madeK_len size l k
    cases hx : (fewL l)[k]? with
    | none =>
      have e : madeK size l (k + 1) = madeK size l k := by unfold madeK; rw [List.take_add_one, hx]; simp
      rw [e]; omega
    | some x =>
      rw [madeK_succ size l k hx]
      have h8 := (few_small x (List.mem_of_getElem? hx)).1
      unfold madeStep
      split
      · dsimp only
        split
        · rw [List.length_append, mkEnts_len]; omega
        · omega
      · split
        · dsimp only; omega
        · omega
end Go.Proofs.YtnibpknhpjcamaaGreatDoor

namespace Go.Proofs.YtnibpknhpjcamaaGreatDoor
open Go.RowKit

theorem InRow.below {w w' : World} {v : Value} {n size : Nat} {xs : List Value} (h : InRow w v n size xs) (hb : Below w.heap.size w w') : InRow w' v n size xs := by
  obtain ⟨h1, ad, cap, h2, h3, h4, h5⟩ := h
  refine ⟨h1, ad, cap, h2, h3, h4, fun j u hu => ?_⟩
  obtain ⟨a, ha, hc⟩ := h5 j u hu
  exact ⟨a, ha, (hb.cell (p := a.add j) (World.block_lt_of_cell? w _ hc)).trans hc⟩

theorem InDeeds.below {w w' : World} {v : Value} {l : List PDeed} (h : InDeeds w v l) (hb : Below w.heap.size w w') : InDeeds w' v l := by
  obtain ⟨q, h1, h2, h3⟩ := h
  exact ⟨q, h1, h2.below hb, fun x hx => ⟨(h3 x hx).1.below hb, (h3 x hx).2.1.below hb, (h3 x hx).2.2⟩⟩

theorem fr_then {S S' : Nat → Prop} {a b c : World} (h : Fr S a b) (k : Fr S' b c) (hS : ∀ i, i < a.heap.size → S' i → S i) : Fr S a c :=
  ⟨k.os.trans h.os, k.tape.trans h.tape, k.output.trans h.output, Nat.le_trans h.size k.size, fun i hi hn => (k.block i (Nat.lt_of_lt_of_le hi h.size) (fun hs => hn (hS i hi hs))).trans (h.block i hi hn)⟩

/-- The loop of made: behind so many deeds. -/
def MadeRel (w w2 w3 : World) (ll d : Nat) (size : Int) (l : List PDeed) (c av : Value) (wr : World) : Prop :=
  ∃ (k : Nat) (v1 : Value) (S SD : Nat → Prop), k ≤ (fewL l).length ∧ c = .int .i64 k ∧ v1 = av ∧ LogAt wr ll d S (madeK size l k).1 ∧ DiskAt wr d SD (madeK size l k).2.1 ∧
    wr.ownsRow w3.heap.size 37 3 v1 (madeK size l k).2.2.length (entCells (madeK size l k).2.2) ∧ (∀ i, S i → w.heap.size ≤ i ∧ (i < w2.heap.size ∨ w3.heap.size ≤ i)) ∧ (∀ i, SD i → w.heap.size ≤ i ∧ (i < w2.heap.size ∨ w3.heap.size ≤ i)) ∧
    Fr (fun i => i < w2.heap.size) w3 wr ∧ Below w.heap.size w wr

/-- What a call on the log leaves of the loop's facts. -/
theorem made_next {w w2 w3 wr wa w5 : World} {ll d : Nat} {S SD : Nat → Prop} {L L' : PLog} {D D' : PDisk} {v : Value} {n : Nat} {xs : List Value} (hlog : LogAt wr ll d S L) (hd : DiskAt wr d SD D) (hrow : wr.ownsRow w3.heap.size 37 3 v n xs)
    (hS : ∀ i, S i → w.heap.size ≤ i ∧ (i < w2.heap.size ∨ w3.heap.size ≤ i)) (hSD : ∀ i, SD i → w.heap.size ≤ i ∧ (i < w2.heap.size ∨ w3.heap.size ≤ i)) (hfr : Fr (fun i => i < w2.heap.size) w3 wr) (hb : Below w.heap.size w wr)
    (hal : Below wr.heap.size wr wa) (hto : LogTo wa w5 ll d S SD L' D') :
    ∃ S5 SD5, LogAt w5 ll d S5 L' ∧ DiskAt w5 d SD5 D' ∧ w5.ownsRow w3.heap.size 37 3 v n xs ∧ (∀ i, S5 i → w.heap.size ≤ i ∧ (i < w2.heap.size ∨ w3.heap.size ≤ i)) ∧ (∀ i, SD5 i → w.heap.size ≤ i ∧ (i < w2.heap.size ∨ w3.heap.size ≤ i)) ∧
      Fr (fun i => i < w2.heap.size) w3 w5 ∧ Below w.heap.size w w5 := by
  obtain ⟨S5, SD5, hl5, hd5, hf5, hs5, hsd5⟩ := hto
  have h1 := hfr.size
  have h2 := hal.size
  have h3 := hb.size
  refine ⟨S5, SD5, hl5, hd5, ?_, ?_, ?_, ?_, ?_⟩
  · refine row_fr (own_bel hrow hal) hf5 (fun b hb2 h => ?_)
    obtain ⟨c, fz, hc⟩ := Lib.ownsRow_kind hrow b hb2
    rcases h with h | h
    · exact hlog.other hc (by decide) (by decide) (by decide) h
    · obtain ⟨m, fs, g1, g2⟩ := hd
      rcases (g2 b).1 h with rfl | rfl | hk
      · have h9 := g1.hdr
        unfold Blk at h9
        rw [h9] at hc
        cases hc
      · obtain ⟨es, c9, hm, _⟩ := g1.map
        rw [hm] at hc
        cases hc
      · obtain ⟨x, hx, rfl⟩ := List.mem_map.1 hk
        have h9 := g1.blk x hx
        unfold Blk at h9
        rw [h9] at hc
        cases hc
  · intro i hi
    rcases hs5 i hi with h | h
    · exact hS i h
    · exact ⟨by omega, .inr (by omega)⟩
  · intro i hi
    rcases hsd5 i hi with h | h
    · exact hSD i h
    · exact ⟨by omega, .inr (by omega)⟩
  · refine fr_then (fr_then hfr (Fr.of_below (S := fun _ => False) hal) (fun _ _ h => h.elim)) hf5 (fun i hi h => ?_)
    rcases h with h | h
    · have := (hS i h).2; omega
    · have := (hSD i h).2; omega
  · refine (bel_next hb hal).trans (hf5.to_below (by omega) (fun i hi h => ?_))
    rcases h with h | h
    · have := (hS i h).1; omega
    · have := (hSD i h).1; omega

/-- Blocks of entries. -/
def EntBlk (w3 w5 : World) (b : Nat) : Prop := w3.heap.size ≤ b ∧ ∃ c fz, w5.heap[b]? = some (.cells c 37 fz)
theorem EntBlk.not_of_cells {w3 w5 : World} {b : Nat} {c : Array Value} {T : TypeId} (h : EntBlk w3 w5 b) (hb : Blk w5 b c T) (hT : T ≠ 37) : False := by
  obtain ⟨_, c2, fz, h2⟩ := h
  unfold Blk at hb
  rw [hb] at h2
  injection h2 with h3
  injection h3 with _ h4 _
  exact hT h4

/-- What made leaves. -/
def MadePost (w : World) (r : PLog × PDisk × List Ent) (e : Ending) (w' : World) : Prop :=
  ∃ (l d : Nat) (av : Value) (S SD : Nat → Prop), e = .returned (.tuple #[ptr l, ptr d, av, .bool true]) ∧ LogAt w' l d S r.1 ∧ DiskAt w' d SD r.2.1 ∧ w'.ownsRow w.heap.size 37 3 av r.2.2.length (entCells r.2.2) ∧
    (∀ k, S k → w.heap.size ≤ k) ∧ (∀ k, SD k → w.heap.size ≤ k) ∧ Below w.heap.size w w'

set_option maxHeartbeats 2000000 in
theorem made_any {w : World} {v : Value} {l : List PDeed} (size : Int) (h : InDeeds w v l) : Calls Tryz.prog 11 #[.int .i64 size, v] w (MadePost w (madeL size l)) := by
  obtain ⟨h20, h219⟩ := made_room size
  have ht0 : -200 < size.tmod 200 ∧ size.tmod 200 < 200 := by
    refine ⟨?_, Int.tmod_lt_of_pos _ (by decide)⟩
    by_cases h : 0 ≤ size
    · have := Int.tmod_nonneg (a := size) 200 h; omega
    · have h5 := Int.tmod_lt_of_pos (-size) (b := 200) (by decide)
      rw [Int.neg_tmod] at h5
      omega
  have hw1 : wrap64 (size.tmod 200 + 200) = size.tmod 200 + 200 := IntWalk.wrap64_in _ (by omega)
  have hw2 : wrap64 (20 + (size.tmod 200 + 200).tmod 200) = madeRoom size := IntWalk.wrap64_in _ (show -9223372036854775808 ≤ madeRoom size ∧ madeRoom size ≤ 9223372036854775807 by omega)
  clear ht0
  generalize hmr : madeRoom size = mr at h20 h219 hw2
  have HMR := hid hmr
  have HI := hid h
  clear h hmr
  obtain ⟨i0, hi, hz0, hz1, hz2⟩ := info_parts Tryz.infoEntry
  go_enter Tryz.func11, Tryz.ntmps11
  go_wp2_with fail
  rw [hw2]
  clear hw1 hw2
  refine (new_any mr w (by omega)).mono ?_
  rintro e w1 ⟨rfl, hd, hb1⟩
  unfold ptr
  have hda : DiskAt w1 (w.heap.size + 1) (foot (w.heap.size + 1) w.heap.size []) ⟨[], mr, -1, false⟩ := ⟨_, _, hd, fun _ => Iff.rfl⟩
  have hS0 : ∀ k, foot (w.heap.size + 1) w.heap.size [] k → w.heap.size ≤ k := by
    rintro k (rfl | rfl | h)
    · omega
    · omega
    · simp at h
  generalize foot (w.heap.size + 1) w.heap.size [] = SD at hda hS0
  clear hd
  generalize hdn : w.heap.size + 1 = d at hda ⊢
  clear hdn
  have HD := hid hda
  have HB1 := hid hb1
  have HS0 := hid hS0
  clear hda hb1 hS0
  go_wp2_with fail
  refine (open_fresh (N := mr) ⟨#[108, 111, 103]⟩ HD.out (by rw [← HMR.out]; exact (madeK_wf size l 0).2) rfl rfl (by decide) (by decide)).mono ?_
  rintro e w2 ⟨ll, rfl, hl, hlog, hb2⟩
  unfold ptr
  have hba := HB1.out.size
  have HD2 := hid (HD.out.below hb2)
  have HB2 := hid (bel_next HB1.out hb2)
  have HLOG := hid hlog
  have HSL : Hid (∀ k, (fun k => k = ll) k → w.heap.size ≤ k) := hid (fun k h => by have h2 : k = ll := h; omega)
  clear HB1 HD hb2 hlog hl hba
  generalize (fun k => k = ll) = S at HLOG HSL
  go_wp2_with fail
  refine (few_any (HI.out.below HB2.out)).mono ?_
  rintro e w3 ⟨r, rfl, ⟨q, hq, hrow, hall⟩, hb3⟩
  have hql : q.length = (fewL l).length := by rw [← hq, List.length_map]
  have hq50 := few_len l
  obtain ⟨ra, rc, rfl, hcell⟩ : ∃ ad cap, r = .slice ad q.length cap ∧ ∀ j u, (deedCells q)[j]? = some u → ∃ g, ad = some ⟨g, 0, none⟩ ∧ w2.heap.size ≤ g ∧ g < w3.heap.size ∧ w3.cell? ⟨g, j, none⟩ = some u := by
    rcases Joins.ownsRow_forms hrow with ⟨e, hz⟩ | ⟨g, cap, rfl⟩
    · refine ⟨none, 0, by rw [e, hz], fun j u hu => ?_⟩
      have : q = [] := List.length_eq_zero_iff.1 hz
      rw [this] at hu
      cases hu
    · refine ⟨_, cap, rfl, fun j u hu => ⟨g, rfl, (hrow.lt g rfl).1, (hrow.lt g rfl).2, ?_⟩⟩
      rw [hrow.cellAt j (by have h9 := (List.getElem?_eq_some_iff.1 hu).1; have h10 := hrow.1; omega)]
      exact hu
  have hlim := HB2.out.size
  have HLOG3 := hid (HLOG.out.below hb3)
  have HD3 := hid (HD2.out.below hb3)
  have HS2 : Hid (∀ i, S i → i < w2.heap.size) := hid (fun i hi => HLOG.out.lt hi)
  have HSD2 : Hid (∀ i, SD i → i < w2.heap.size) := hid (fun i hi => by
    obtain ⟨m, fs, h1, h2⟩ := HD2.out
    exact h1.foot_lt ((h2 i).1 hi))
  have HB3 := hid (bel_next HB2.out hb3)
  have hle23 := hb3.size
  have HCELL := hid hcell
  have HALL := hid hall
  have HQ := hid hq
  clear hrow hall hcell hb3 hq HD2 HLOG HI
  go_wp2_with fail
  go_loopw [13, 12] (fun c av wr => MadeRel w w2 w3 ll d size l c av wr) (fun c _ _ => q.length - (intOf c).toNat)
  case atStart =>
    refine ⟨0, _, S, SD, by omega, rfl, rfl, ?_, ?_, World.ownsRow_nil _ _ _ _, fun i hi => ⟨HSL.out i hi, .inl (HS2.out i hi)⟩, fun i hi => ⟨HS0.out i hi, .inl (HSD2.out i hi)⟩, Fr.refl _ _, HB3.out⟩
    · exact HLOG3.out
    · have h := HD3.out
      rw [← HMR.out] at h
      exact h
  case round =>
    clear HLOG3 HD3 HS2 HSD2 HSL HS0 HB3
    obtain ⟨k, v1, S, SD, hk, rfl, rfl, hlog, hd, hrow, hS, hSD, hfr, hb⟩ := hrel
    have HLOG := hid hlog
    have HD := hid hd
    have HROW := hid hrow
    have HS := hid hS
    have HSD := hid hSD
    have HFR := hid hfr
    have HB := hid hb
    clear hlog hd hrow hS hSD hfr hb
    by_cases hlt : k < q.length
    · obtain ⟨x, hx⟩ : ∃ x, q[k]? = some x := ⟨_, List.getElem?_eq_getElem hlt⟩
      obtain ⟨e0, e1, e2, e3⟩ := deedCells_at q k x hx
      obtain ⟨g, rfl, hg1, hg2, c0⟩ := HCELL.out _ _ e0
      have hc : ∀ j u, (deedCells q)[j]? = some u → wr.cell? ⟨g, j, none⟩ = some u := by
        intro j u hu
        obtain ⟨g', hg', _, _, hc⟩ := HCELL.out j u hu
        simp only [Option.some.injEq, Addr.mk.injEq] at hg'
        obtain ⟨rfl, _⟩ := hg'
        exact (World.cell?_of_block (a := ⟨g, j, none⟩) (HFR.out.block g hg2 (by omega))).trans hc
      have d0 := hc _ _ e0
      have d1 := hc _ _ e1
      have d2 := hc _ _ e2
      have d3 := hc _ _ e3
      have hxf : (fewL l)[k]? = some x.d := by rw [← HQ.out, List.getElem?_map, hx]; rfl
      have HXF := hid hxf
      have HX := hid hx
      obtain ⟨ila, ilc, hxL⟩ := row_slice (HALL.out x (List.mem_of_getElem? hx)).1
      obtain ⟨_, ika, ikc, hxK, _⟩ := (HALL.out x (List.mem_of_getElem? hx)).2
      rw [hxL] at d2
      rw [hxK] at d3
      clear c0 e0 e1 e2 e3 hc hxf hx
      obtain ⟨hbd, hwf⟩ := madeK_wf size l k
      rw [HMR.out] at hwf
      have hwl := hbd.wf (by omega)
      have HWF := hid hwf
      have HWL := hid hwl
      clear hbd hwf hwl
      have hstep := madeK_succ size l k HXF.out
      have HSTEP := hid hstep
      clear hstep
      by_cases hck : callKind x.d.kind
      · have hsm := few_small x.d (List.mem_of_getElem? HXF.out)
        have hown := row_fr (HALL.out x (List.mem_of_getElem? HX.out)).1 HFR.out (fun b hb hlt2 => by
          have h9 := ((HALL.out x (List.mem_of_getElem? HX.out)).1.lt b hb).1
          have h10 : b < w2.heap.size := hlt2
          omega)
        rw [hxL] at hown
        have HOWN := hid (hown.alloc (.cells #[.int .i64 x.d.kind, .int .i64 x.d.n, .slice ila x.d.its.length ilc, .slice ika x.d.keep.length ikc] 68))
        have HSM := hid hsm
        have HST : Hid (madeK size l (k + 1) = (((madeK size l k).1.append (madeK size l k).2.1 x.d.its).1, ((madeK size l k).1.append (madeK size l k).2.1 x.d.its).2.1,
            if ((madeK size l k).1.append (madeK size l k).2.1 x.d.its).2.2.2 = 0 then (madeK size l k).2.2 ++ mkEnts ((madeK size l k).1.append (madeK size l k).2.1 x.d.its).2.2.1 x.d.its else (madeK size l k).2.2)) := hid (by
          rw [HSTEP.out]; unfold madeStep; rw [if_pos hck])
        have hda := HLOG.out.below (bel_alloc (Below.refl wr.heap.size wr) (.cells #[.int .i64 x.d.kind, .int .i64 x.d.n, .slice ila x.d.its.length ilc, .slice ika x.d.keep.length ikc] 68))
        have hdd := HD.out.below (bel_alloc (Below.refl wr.heap.size wr) (.cells #[.int .i64 x.d.kind, .int .i64 x.d.n, .slice ila x.d.its.length ilc, .slice ika x.d.keep.length ikc] 68))
        have HDA := hid hda
        have HDD := hid hdd
        clear hda hdd hsm hown
        rcases hck with h4 | h4 | h4 | h4
        all_goals
          rw [h4] at d0 HDA HDD HOWN
          go_wp2_with fail
          refine (append_all (N := mr) _ x.d.its HDA.out HDD.out HWF.out HWL.out (Reads.of_own HOWN.out) (by have := HSM.out.1; omega) (fun y hy => by have := HSM.out.2 y hy; omega)).mono ?_
          rintro e w5 ⟨rfl, hto⟩
          obtain ⟨S5, SD5, r1, r2, r3, r4, r5, r6, r7⟩ := made_next HLOG.out HD.out HROW.out HS.out HSD.out HFR.out HB.out (bel_alloc (Below.refl wr.heap.size wr) _) hto
          have hz := append_zero (D := (madeK size l k).2.1) (its := x.d.its) HWL.out.next.2
          have HZ := hid hz
          have hblk := (Blk.new wr #[.int .i64 x.d.kind, .int .i64 x.d.n, .slice ila x.d.its.length ilc, .slice ika x.d.keep.length ikc] 68)
          rw [h4] at hblk
          have hlo := hto
          obtain ⟨S6, SD6, q1, q2, q3, q4, q5⟩ := hlo
          have hblk5 := hblk.fr q3 (by
            intro h
            have hw := HLOG.out
            rcases h with h | h
            · have := hw.lt h; omega
            · obtain ⟨m, fs, g1, g2⟩ := HD.out
              have := g1.foot_lt ((g2 _).1 h); omega)
          clear q1 q2 q3 q4 q5 hto hz
          generalize hap : (madeK size l k).1.append (madeK size l k).2.1 x.d.its = ap at HST HZ r1 r2 ⊢
          have HR := hid (And.intro r1 (And.intro r2 (And.intro r4 (And.intro r5 (And.intro r6 r7)))))
          have HA := hid r3
          have HBLK := hid hblk5
          have hown6 : w5.ownsRow w2.heap.size 58 2 (.slice ila x.d.its.length ilc) x.d.its.length (itemCells x.d.its) := by
            have h0 := (HALL.out x (List.mem_of_getElem? HX.out)).1
            rw [hxL] at h0
            refine row_fr h0 r6 (fun b hb hlt2 => ?_)
            have h9 := (h0.lt b hb).1
            have h10 : b < w2.heap.size := hlt2
            omega
          have HOW6 := hid hown6
          have hwsz := r6.size
          clear r1 r2 r3 r4 r5 r6 r7 hblk hblk5 hown6 hap HDA HDD HOWN
          have hal := madeK_len size l k
          generalize (madeK size l k).2.2 = acc at HST HA hal
          generalize wr.heap.size = xb at HBLK ⊢
          go_wp2_with fail
          go_loopw [17, 15, 12] (fun c nv av wz => ∃ (j : Nat) (v2 : Value), j ≤ x.d.its.length ∧ (ap.2.2.2 ≠ 0 → j = 0) ∧ c = .int .i64 j ∧ nv = .int .i64 (ap.2.2.1 + sumN (x.d.its.take j)) ∧ v2 = av ∧
            wz.ownsRow w3.heap.size 37 3 v2 (acc ++ mkEnts ap.2.2.1 (x.d.its.take j)).length (entCells (acc ++ mkEnts ap.2.2.1 (x.d.its.take j))) ∧ Fr (EntBlk w3 w5) w5 wz) (fun c _ _ _ => x.d.its.length - (intOf c).toNat)
          case atStart => exact ⟨0, _, by omega, fun _ => rfl, rfl, by simp [sumN], rfl, by simpa [mkEnts] using HA.out, Fr.refl _ _⟩
          case round =>
            obtain ⟨j, v2, hj, hj0, rfl, rfl, rfl, hrow2, hf2⟩ := hrel
            have g2 := (HBLK.out.fr hf2 (fun h => h.not_of_cells HBLK.out (by decide))).cell (i := 2) (v := .slice ila x.d.its.length ilc) rfl
            have HROW2 := hid hrow2
            have HF2 := hid hf2
            clear hrow2 hf2
            by_cases hgo : j < x.d.its.length ∧ ap.2.2.2 = 0
            · obtain ⟨hjl, he⟩ := hgo
              obtain ⟨y, hy⟩ : ∃ y, x.d.its[j]? = some y := ⟨_, List.getElem?_eq_getElem hjl⟩
              obtain ⟨z1, z2, _⟩ := HZ.out he
              obtain ⟨s1, s2, s3, s4⟩ := chain_sum (by rw [← z1] at z2; exact z2) hy
              have hiw := row_fr HOW6.out HF2.out (fun b hb h => by
                obtain ⟨c, fz, hc⟩ := Lib.ownsRow_kind HOW6.out b hb
                obtain ⟨_, c2, fz2, h2⟩ := h
                rw [hc] at h2
                cases h2)
              obtain ⟨k0, k1⟩ := itemCells_at x.d.its j y hy
              obtain ⟨ig, rfl⟩ : ∃ ig, ila = some ⟨ig, 0, none⟩ := by
                rcases Joins.ownsRow_forms hiw with ⟨e, hz9⟩ | ⟨g9, cap9, e⟩
                · omega
                · injection e with e1; exact ⟨g9, e1⟩
              have f0 : wr.cell? ⟨ig, j * 2, none⟩ = some (.int .i64 y.n) := by
                rw [hiw.cellAt (j * 2) (by omega)]; exact k0
              have f1 : wr.cell? ⟨ig, j * 2 + 1, none⟩ = some (.string (bs y.text)) := by
                rw [hiw.cellAt (j * 2 + 1) (by omega)]; exact k1
              have HY := hid hy
              have HIW := hid hiw
              clear hiw k0 k1 z1 z2 hy
              have he2 : (ap.2.2.2 == 0) = true := by simpa using he
              have HE := hid he
              clear he
              have hbx := HBLK.out.fr HF2.out (fun h => h.not_of_cells HBLK.out (by decide))
              have lx := hbx.lt
              have lig : ig < wr.heap.size := World.block_lt_of_cell? wr _ f0
              have ak1 : v2.ownBlock ≠ some xb := fun e => by
                obtain ⟨c, fz, hc⟩ := Lib.ownsRow_kind HROW2.out xb e
                unfold Blk at hbx
                rw [hbx] at hc
                cases hc
              have ak2 : v2.ownBlock ≠ some ig := fun e => by
                obtain ⟨c, fz, hc⟩ := Lib.ownsRow_kind HROW2.out ig e
                obtain ⟨c2, fz2, hc2⟩ := Lib.ownsRow_kind HIW.out ig rfl
                rw [hc2] at hc
                cases hc
              have ak1 := hid ak1
              have ak2 := hid ak2
              have hb3 : w3.heap.size ≤ wr.heap.size := Nat.le_trans hwsz HF2.out.size
              have hln : (acc ++ mkEnts ap.2.2.1 (x.d.its.take j)).length ≤ 1000 := by
                have := HSM.out.1
                rw [List.length_append, mkEnts_len, List.length_take]; omega
              have hj1 : (0 : Int) ≤ (j : Int) := Int.natCast_nonneg _
              have hj8 := HSM.out.1
              have hj2 : (j : Int) < (x.d.its.length : Int) := by omega
              clear hbx
              go_upto_region 20 with fail
              go_region_held3 (fun w' => w'.cell? ⟨xb, 2, none⟩ = some (.slice (some ⟨ig, 0, none⟩) x.d.its.length ilc) ∧ w'.cell? ⟨ig, j * 2, none⟩ = some (.int .i64 y.n) ∧ w'.cell? ⟨ig, j * 2 + 1, none⟩ = some (.string (bs y.text)))
                (first
                  | go_keep
                  | (go_split_ands
                     refine ⟨?_, ?_, ?_⟩
                     · (rw [hgrow.out.cell_far _ (by simp; omega) (Ne.symm ak1.out)]; assumption)
                     · (rw [hgrow.out.cell_far _ (by simp; omega) (Ne.symm ak2.out)]; assumption)
                     · (rw [hgrow.out.cell_far _ (by simp; omega) (Ne.symm ak2.out)]; assumption)))
                ((refine step_append_lies _ (by rfl) _ _ _ (by rfl) w3.heap.size 37 i0 _ 3 32 Tryz.underlying25 hi hz0 hz1 hz2 rfl (by omega) v2 (acc ++ mkEnts ap.2.2.1 (x.d.its.take j)).length (entCells (acc ++ mkEnts ap.2.2.1 (x.d.its.take j))) (by rfl) ((HROW2.out.alloc _).drew)
                    ⟨wr.heap.size, 0, none⟩ 1 1 [.int .i64 (ap.2.2.1 + sumN (x.d.its.take j)), .int .i64 y.n, .string (bs y.text)] (by rfl) (by rfl) (World.news_of_block (cs := #[.int .i64 (ap.2.2.1 + sumN (x.d.its.take j)), .int .i64 y.n, .string (bs y.text)]) (t := 37) (fr := (0, 0)) (heap_alloc_new wr _)) (by simp [Value.oneCell'])
                    (by omega) (by unfold maxLen; omega) (by omega) (by simp; omega) (wr.heap.size + 1) (by simp) ?_; intro gg cap7 w7 hown7 hgrow0 hat7 hlt7; have HOWN7 := hid hown7; have hgrow := hid hgrow0; clear hown7 hgrow0))
              have g7 : w7.cell? ⟨xb, 2, none⟩ = some (.slice (some ⟨ig, 0, none⟩) x.d.its.length ilc) := (hgrow.out.cell_far _ (by simp; omega) (Ne.symm ak1.out)).trans (by go_simp)
              have f7 : w7.cell? ⟨ig, j * 2, none⟩ = some (.int .i64 y.n) := (hgrow.out.cell_far _ (by simp; omega) (Ne.symm ak2.out)).trans (by go_simp)
              clear g2 f0 f1
              go_wp2_with fail
              go_roundw
              case rel =>
                have ht : x.d.its.take (j + 1) = x.d.its.take j ++ [y] := by rw [List.take_add_one, HY.out]; rfl
                have hm : acc ++ mkEnts ap.2.2.1 (x.d.its.take (j + 1)) = (acc ++ mkEnts ap.2.2.1 (x.d.its.take j)) ++ [⟨ap.2.2.1 + sumN (x.d.its.take j), y.n, y.text⟩] := by rw [ht, mkEnts_snoc, List.append_assoc]
                refine ⟨j + 1, _, by omega, fun h => absurd HE.out h, by go_num, ?_, rfl, ?_, ?_⟩
                · rw [ht, sumN_snoc, Int.add_assoc]
                · rw [hm, List.length_append, List.length_singleton]
                  have e9 : entCells ((acc ++ mkEnts ap.2.2.1 (x.d.its.take j)) ++ [⟨ap.2.2.1 + sumN (x.d.its.take j), y.n, y.text⟩]) = entCells (acc ++ mkEnts ap.2.2.1 (x.d.its.take j)) ++ [.int .i64 (ap.2.2.1 + sumN (x.d.its.take j)), .int .i64 y.n, .string (bs y.text)] := by unfold entCells; rw [List.flatMap_append]; rfl
                  rw [e9]
                  have h7 := HOWN7.out
                  rw [List.length_append] at h7 ⊢
                  exact h7
                · have hf2 := HF2.out
                  have hg := hgrow.out
                  refine ⟨hg.os.trans hf2.os, hg.tape.trans hf2.tape, hg.output.trans hf2.output, Nat.le_trans (Nat.le_trans hf2.size (by simp)) hg.size, fun b hbl hn => ?_⟩
                  have hold := hf2.block b hbl hn
                  have hbw : b < wr.heap.size := Nat.lt_of_lt_of_le hbl hf2.size
                  refine (hg.block b (by simp; omega) (fun e => ?_)).trans ((((Fr.refl (fun _ => False) wr).alloc _).drew.block b hbw (fun h => h)).trans hold)
                  obtain ⟨c, fz, hc⟩ := Lib.ownsRow_kind HROW2.out b e.symm
                  exact hn ⟨(HROW2.out.lt b e.symm).1, c, fz, hold.symm.trans hc⟩
              case measure => simp [intOf]; omega
            · have hfin : acc ++ mkEnts ap.2.2.1 (x.d.its.take j) = if ap.2.2.2 = 0 then acc ++ mkEnts ap.2.2.1 x.d.its else acc := by
                by_cases he : ap.2.2.2 = 0
                · rw [if_pos he, List.take_of_length_le (by omega)]
                · rw [if_neg he, hj0 he]; simp [mkEnts]
              obtain ⟨t1, t2, t3, t4, t5, t6⟩ := HR.out
              have u1 := t1.fr HF2.out (fun b hb h => by
                obtain ⟨_, c2, fz, h2⟩ := h
                exact t1.other h2 (by decide) (by decide) (by decide) hb)
              have u2 := t2.fr HF2.out (fun b hb h => by
                obtain ⟨_, c2, fz, h2⟩ := h
                obtain ⟨m, fs, g1, g2⟩ := t2
                rcases (g2 b).1 hb with rfl | rfl | hk
                · have h9 := g1.hdr
                  unfold Blk at h9
                  rw [h9] at h2
                  cases h2
                · obtain ⟨es, c9, hm, _⟩ := g1.map
                  rw [hm] at h2
                  cases h2
                · obtain ⟨y, hy, rfl⟩ := List.mem_map.1 hk
                  have h9 := g1.blk y hy
                  unfold Blk at h9
                  rw [h9] at h2
                  cases h2)
              have u5 : Fr (fun i => i < w2.heap.size) w3 wr := fr_then t5 HF2.out (fun i hi h => by have := h.1; omega)
              have u6 := t6.trans (HF2.out.to_below (by omega) (fun i hi h => by have := h.1; omega))
              have HREL : Hid (MadeRel w w2 w3 ll d size l (.int .i64 ((k + 1 : Nat) : Int)) v2 wr) := by
                have h8 := HROW2.out
                rw [hfin] at h8
                exact hid ⟨k + 1, v2, S5, SD5, by omega, rfl, rfl, by rw [HST.out]; exact u1, by rw [HST.out]; exact u2, by rw [HST.out]; exact h8, t3, t4, u5, u6⟩
              clear hfin t1 t2 t3 t4 t5 t6 u1 u2 u5 u6
              by_cases hjl : j < x.d.its.length
              · have he : ap.2.2.2 ≠ 0 := fun h => hgo ⟨hjl, h⟩
                have he2 : (ap.2.2.2 == 0) = false := beq_eq_false_iff_ne.2 he
                clear hgo hj0
                go_wp2_with fail
                go_roundw
                case rel => exact HREL.out
                case measure => simp [intOf]; omega
              · clear hgo hj0
                go_wp2_with fail
                go_roundw
                case rel => exact HREL.out
                case measure => simp [intOf]; omega
      · have hn0 : x.d.kind ≠ 0 := fun h => hck (.inl h)
        have hn1 : x.d.kind ≠ 1 := fun h => hck (.inr (.inl h))
        have hn2 : x.d.kind ≠ 2 := fun h => hck (.inr (.inr (.inl h)))
        have hn3 : x.d.kind ≠ 3 := fun h => hck (.inr (.inr (.inr h)))
        have hm0 : (x.d.kind == 0) = false := beq_eq_false_iff_ne.2 hn0
        have hm1 : (x.d.kind == 1) = false := beq_eq_false_iff_ne.2 hn1
        have hm2 : (x.d.kind == 2) = false := beq_eq_false_iff_ne.2 hn2
        have hm3 : (x.d.kind == 3) = false := beq_eq_false_iff_ne.2 hn3
        by_cases hsk : x.d.kind = 4 ∨ x.d.kind = 5
        · have HST : Hid (madeK size l (k + 1) = (((madeK size l k).1.sync (madeK size l k).2.1).1, ((madeK size l k).1.sync (madeK size l k).2.1).2.1, (madeK size l k).2.2)) := hid (by
            rw [HSTEP.out]; unfold madeStep; rw [if_neg hck, if_pos hsk])
          have hda := HLOG.out.below (bel_alloc (Below.refl wr.heap.size wr) (.cells #[.int .i64 x.d.kind, .int .i64 x.d.n, .slice ila x.d.its.length ilc, .slice ika x.d.keep.length ikc] 68))
          have hdd := HD.out.below (bel_alloc (Below.refl wr.heap.size wr) (.cells #[.int .i64 x.d.kind, .int .i64 x.d.n, .slice ila x.d.its.length ilc, .slice ika x.d.keep.length ikc] 68))
          have HDA := hid hda
          have HDD := hid hdd
          clear hda hdd hck hn0 hn1 hn2 hn3
          rcases hsk with h4 | h4
          all_goals
            rw [h4] at d0 hm0 hm1 hm2 hm3 HDA HDD
            go_wp2_with fail
            refine (logSync_any (N := mr) HDA.out HDD.out HWF.out HWL.out).mono ?_
            rintro e w5 ⟨rfl, hto⟩
            obtain ⟨S5, SD5, r1, r2, r3, r4, r5, r6, r7⟩ := made_next HLOG.out HD.out HROW.out HS.out HSD.out HFR.out HB.out (bel_alloc (Below.refl wr.heap.size wr) _) hto
            have HREL : Hid (MadeRel w w2 w3 ll d size l (.int .i64 ((k + 1 : Nat) : Int)) v1 w5) :=
              hid ⟨k + 1, v1, S5, SD5, by omega, rfl, rfl, by rw [HST.out]; exact r1, by rw [HST.out]; exact r2, by rw [HST.out]; exact r3, r4, r5, r6, r7⟩
            clear hto r1 r2 r3 r4 r5 r6 r7
            go_wp2_with fail
            go_roundw
            case rel => exact HREL.out
            case measure => simp [intOf]; omega
        · have hm4 : (x.d.kind == 4) = false := beq_eq_false_iff_ne.2 (fun h => hsk (.inl h))
          have hm5 : (x.d.kind == 5) = false := beq_eq_false_iff_ne.2 (fun h => hsk (.inr h))
          have HST : Hid (madeK size l (k + 1) = madeK size l k) := hid (by rw [HSTEP.out]; unfold madeStep; rw [if_neg hck, if_neg hsk])
          clear hck hsk hn0 hn1 hn2 hn3
          have hto := LogTo.of_below (HLOG.out.below (bel_alloc (Below.refl wr.heap.size wr) (.cells #[.int .i64 x.d.kind, .int .i64 x.d.n, .slice ila x.d.its.length ilc, .slice ika x.d.keep.length ikc] 68))) (HD.out.below (bel_alloc (Below.refl wr.heap.size wr) (.cells #[.int .i64 x.d.kind, .int .i64 x.d.n, .slice ila x.d.its.length ilc, .slice ika x.d.keep.length ikc] 68))) (Below.refl _ _)
          obtain ⟨S5, SD5, r1, r2, r3, r4, r5, r6, r7⟩ := made_next HLOG.out HD.out HROW.out HS.out HSD.out HFR.out HB.out (bel_alloc (Below.refl wr.heap.size wr) _) hto
          have HREL : Hid (MadeRel w w2 w3 ll d size l (.int .i64 ((k + 1 : Nat) : Int)) v1 (wr.alloc (.cells #[.int .i64 x.d.kind, .int .i64 x.d.n, .slice ila x.d.its.length ilc, .slice ika x.d.keep.length ikc] 68))) :=
            hid ⟨k + 1, v1, S5, SD5, by omega, rfl, rfl, by rw [HST.out]; exact r1, by rw [HST.out]; exact r2, by rw [HST.out]; exact r3, r4, r5, r6, r7⟩
          clear hto r1 r2 r3 r4 r5 r6 r7
          go_wp2_with fail
          go_roundw
          case rel => exact HREL.out
          case measure => simp [intOf]; omega
    · have hkk : k = (fewL l).length := by omega
      have HALLK := madeK_all size l
      rw [← hkk] at HALLK
      have HK := hid HALLK
      clear HALLK
      obtain rfl : k = q.length := by omega
      go_wp2_with fail
      refine bodyPost_ret (v := .tuple #[ptr ll, ptr d, v1, .bool true]) ?_ rfl ⟨ll, d, v1, S, SD, rfl, by rw [← HK.out]; exact HLOG.out, by rw [← HK.out]; exact HD.out, by rw [← HK.out]; exact own_base HROW.out (by omega), fun i hi => (HS.out i hi).1, fun i hi => (HSD.out i hi).1, HB.out⟩
      simp [results, Tryz.results11, go_sem, ptr]
end Go.Proofs.YtnibpknhpjcamaaGreatDoor

namespace Go.Proofs.YtnibpknhpjcamaaGreatDoor
open Go.RowKit

theorem chain_bound {b : Int} {l : List Ent} (h : Chain b l) : endOf b l ≤ b + 64 * l.length := by
  induction l generalizing b with
  | nil => simp [endOf]
  | cons x l ih =>
    rw [endOf_cons b x l h.1]
    have := ih h.2.2
    have := h.2.1.2.2.2.1
    simp only [List.length_cons]
    omega

/-- A log that nothing has befallen, alone on its disk. -/
structure Good (A : ALog) (D : PDisk) (k : Nat) : Prop where
  inv : Inv A D
  e : A.e = 0
  off : D.off = false
  fuse : D.fuse = -1
  own : ∀ f ∈ D.files, own A.name f = true
  ents : ∀ s ∈ A.segs, s.ents ≠ []
  first : A.first = 0
  next : A.next ≤ 512 * k

theorem Good.append {A : ALog} {D : PDisk} {N : Int} {k : Nat} (h : Good A D k) (hw : D.WF N) {its : List PItem} (hl : its.length ≤ 8) :
    Good (A.append D its).1 (A.append D its).2.1 (k + 1) ∧ (A.append D its).1.name = A.name ∧
      (A.append D its).1.all = (if (A.append D its).2.2.2 = 0 then A.all ++ mkEnts (A.append D its).2.2.1 its else A.all) := by
  have hn := h.next
  have ho := h.inv.append_out hw h.e its
  generalize A.append D its = r at ho ⊢
  have hap : ∀ {A' : ALog}, A'.segs = A.segs → A'.all = A.all ∧ A'.first = A.first ∧ A'.next = A.next := fun {A'} hs => by
    unfold ALog.all ALog.first ALog.next; rw [hs]; exact ⟨rfl, rfl, rfl⟩
  cases ho with
  | ok A' D' inv name all next chain first e sure own' off fuse ents =>
    refine ⟨⟨inv, e, off, fuse h.fuse, by rw [name]; exact own' h.own, ents h.ents, by rw [first]; exact h.first, ?_⟩, name, by rw [if_pos rfl]; exact all⟩
    have := chain_bound chain
    rw [mkEnts_len] at this
    dsimp only
    rw [next]; omega
  | full A' D' inv name segs e sure room len own' off fuse =>
    obtain ⟨h1, h2, h3⟩ := hap segs
    exact ⟨⟨inv, e, off, fuse h.fuse, by rw [name]; exact own' h.own, by dsimp only; rw [segs]; exact h.ents, by dsimp only; rw [h2]; exact h.first, by dsimp only; rw [h3]; omega⟩, name, by rw [if_neg (show ¬ (5 : Int) = 0 by decide)]; exact h1⟩
  | bad c why =>
    have hc : c ≠ 0 := by rcases why with ⟨_, rfl⟩ | ⟨_, _, rfl | rfl⟩ <;> decide
    exact ⟨⟨h.inv, h.e, h.off, h.fuse, h.own, h.ents, h.first, by dsimp only; omega⟩, rfl, by rw [if_neg hc]⟩
  | dark A' A2 D' inv name name2 segs sure sure' e chain max all off was =>
    exfalso
    have h1 := h.off
    have h2 := h.fuse
    rcases was with h3 | h3
    · rw [h1] at h3; cases h3
    · omega

theorem Good.sync {A : ALog} {D : PDisk} {N : Int} {k : Nat} (h : Good A D k) (hw : D.WF N) :
    Good (A.sync D).1 (A.sync D).2.1 k ∧ (A.sync D).1.name = A.name ∧ (A.sync D).1.all = A.all ∧ (A.sync D).1.next = A.next ∧ (A.sync D).1.sure = A.next ∧ (A.sync D).2.2 = 0 := by
  have ho := h.inv.sync_out hw h.e
  generalize A.sync D = r at ho ⊢
  cases ho with
  | ok A' D' inv name segs e sure room len own' off fuse =>
    have h2 : A'.first = A.first := by unfold ALog.first; rw [segs]
    have h3 : A'.next = A.next := by unfold ALog.next; rw [segs]
    exact ⟨⟨inv, e, off h.off, fuse h.fuse, by rw [name]; exact own' h.own, by dsimp only; rw [segs]; exact h.ents, by dsimp only; rw [h2]; exact h.first, by dsimp only; rw [h3]; exact h.next⟩, name, by unfold ALog.all; rw [segs], h3, sure, rfl⟩
  | dark D' inv off was =>
    exfalso
    have h1 := h.off
    have h2 := h.fuse
    rcases was with h3 | h3
    · rw [h1] at h3; cases h3
    · omega

theorem madeK_good (size : Int) (l : List PDeed) : ∀ k, ∃ A, (madeK size l k).1 = A.toP ∧ Good A (madeK size l k).2.1 k ∧ A.name = [108, 111, 103] ∧ A.all = (madeK size l k).2.2
  | 0 => by
    refine ⟨⟨[108, 111, 103], [], 0, 0⟩, rfl, ⟨⟨by decide, by decide, by decide, trivial, by simp, rfl, ?_, ?_, fun _ => rfl⟩, rfl, rfl, rfl, ?_, by simp, rfl, by decide⟩, rfl, rfl⟩
    · intro f hf
      simp [filesOf, madeK] at hf
    · intro s f hs
      simp at hs
    · intro f hf
      simp [madeK] at hf
  | k + 1 => by
    obtain ⟨A, h1, h2, h3, h4⟩ := madeK_good size l k
    obtain ⟨hb, hw⟩ := madeK_wf size l k
    have hup : Good A (madeK size l k).2.1 (k + 1) := ⟨h2.inv, h2.e, h2.off, h2.fuse, h2.own, h2.ents, h2.first, by have := h2.next; omega⟩
    cases hx : (fewL l)[k]? with
    | none =>
      have e : madeK size l (k + 1) = madeK size l k := by unfold madeK; rw [List.take_add_one, hx]; simp
      rw [e]
      exact ⟨A, h1, hup, h3, h4⟩
    | some x =>
      rw [madeK_succ size l k hx]
      unfold madeStep
      split
      · obtain ⟨g1, g2, g3⟩ := h2.append hw (few_small x (List.mem_of_getElem? hx)).1
        dsimp only
        rw [h1, toP_append]
        exact ⟨_, rfl, g1, by rw [g2]; exact h3, by rw [g3, h4]⟩
      · split
        · obtain ⟨g1, g2, g3, _⟩ := hup.sync hw
          dsimp only
          rw [h1, toP_sync]
          exact ⟨_, rfl, g1, by rw [g2]; exact h3, by rw [g3, h4]⟩
        · exact ⟨A, h1, hup, h3, h4⟩

/-- What is told some at a time. -/
theorem every_spec {A : ALog} {D : PDisk} {N : Int} (h : Inv A D) (hw : D.WF N) (ho : D.off = false) (he : A.e = 0) {most : Int} (hm : 1 ≤ most ∧ most ≤ 32) :
    (∀ k, k < A.all.length → A.toP.fetch D (endOf A.first (A.all.take k)) most = ((A.all.drop k).take most.toNat, 0)) ∧
    (∀ k, k ≤ A.all.length → (endOf A.first (A.all.take k) < A.next ↔ k < A.all.length)) ∧ (∀ k, A.first ≤ endOf A.first (A.all.take k) ∧ endOf A.first (A.all.take k) ≤ A.next) := by
  obtain ⟨hc, hn⟩ := h.all_chain
  have hb : ∀ k, A.first ≤ endOf A.first (A.all.take k) ∧ endOf A.first (A.all.take k) ≤ A.next := by
    intro k
    have hs := List.take_append_drop k A.all
    have hc2 := hc
    rw [← hs] at hc2
    have h1 := (Chain.app.1 hc2).1.le
    have h2 := (endOf_prefix hc2).1
    rw [hs, hn] at h2
    exact ⟨h1, h2⟩
  refine ⟨fun k hk => ?_, fun k hk => ?_, hb⟩
  · rw [h.fetch hw ho he hm (hb k).1 (hb k).2, filter_drop hc k]
  · have hs := List.take_append_drop k A.all
    have hc2 := hc
    rw [← hs] at hc2
    constructor
    · intro hlt
      refine Classical.byContradiction fun hge => ?_
      rw [List.take_of_length_le (by omega), hn] at hlt
      omega
    · intro hlt
      have h1 := (Chain.app.1 hc2).2.lt (by intro h9; have := congrArg List.length h9; simp at this; omega)
      rw [← endOf_app, hs, hn] at h1
      exact h1
end Go.Proofs.YtnibpknhpjcamaaGreatDoor
