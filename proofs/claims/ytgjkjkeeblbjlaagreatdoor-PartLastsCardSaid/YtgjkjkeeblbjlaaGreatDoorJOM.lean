/-
  Light (chapter 6's laws): the walk. No conditions but records that read.
  few (chapter 8's laws): the walk. No conditions but deeds that read.
-/
import Derived.Test.YtgjkjkeeblbjlaaGreatDoorJJM
set_option maxRecDepth 100000
namespace Go.Proofs.YtgjkjkeeblbjlaaGreatDoor
open Go.RowKit

set_option maxHeartbeats 2000000 in
theorem light_any (b : PBat) (K : Value) (w : World) (h : InRecs w K b.l) (ht : ∀ r ∈ b.l, r.text.length ≤ maxLen) :
    Calls Tryz.prog 28 #[b.val K] w fun e w' => e = .returned (.bool b.light) ∧ Below w.heap.size w w' := by
  obtain ⟨ad, cap, rfl, hcap, hmax⟩ := h.form
  obtain ⟨q, hq⟩ : ∃ q, b.light = q := ⟨_, rfl⟩
  rw [hq]
  unfold PBat.light at hq
  have HQ := hid hq
  clear hq
  obtain ⟨kind, pid, epoch, seq, l⟩ := b
  unfold PBat.val
  dsimp only at h ht hcap HQ ⊢
  have hb1 : Below w.heap.size w (w.alloc (.cells #[.int .i64 kind, .int .i64 pid, .int .i64 epoch, .int .i64 seq, .slice ad l.length cap] 31)) := bel_alloc (Below.refl _ _) _
  have hk1 := Blk.new w #[.int .i64 kind, .int .i64 pid, .int .i64 epoch, .int .i64 seq, .slice ad l.length cap] 31
  have HI := hid (h.below hb1)
  have HB := hid hb1
  have HTX := hid ht
  have x4 := hk1.cell (i := 4) (v := .slice ad l.length cap) rfl
  clear h ht hb1 hk1
  by_cases h70 : l.length ≤ 70
  · have d0 : decide ((70 : Int) < (l.length : Int)) = false := decide_eq_false (by omega)
    have HL := hid (decide_eq_true h70)
    go_enter Tryz.func28, Tryz.ntmps28
    go_wp2_with fail
    generalize w.alloc (.cells #[.int .i64 kind, .int .i64 pid, .int .i64 epoch, .int .i64 seq, .slice ad l.length cap] 31) = w1 at HI HB x4 ⊢
    go_loopw [3] (fun j wr => ∃ k : Nat, k ≤ l.length ∧ j = .int .i64 k ∧ wr = w1 ∧ ∀ r ∈ l.take k, r.text.length ≤ 1000) (fun j _ => l.length - (intOf j).toNat)
    case atStart => exact ⟨0, by omega, rfl, rfl, by simp⟩
    case round =>
      obtain ⟨k, hk, rfl, rfl, hall⟩ := hrel
      have HALL := hid hall
      clear hall
      by_cases hlt : k < l.length
      · obtain ⟨x, hx⟩ : ∃ x, l[k]? = some x := ⟨_, List.getElem?_eq_getElem hlt⟩
        obtain ⟨a, rfl, c0, c1, c2⟩ := HI.out.at hx
        have htk : l.take (k + 1) = l.take k ++ [x] := by rw [List.take_add_one, hx]; rfl
        have HTK := hid htk
        have hmem := List.mem_of_getElem? hx
        have hxl := HTX.out x hmem
        have HMEM := hid hmem
        clear hx htk hmem
        have hk0 : (0 : Int) ≤ (k : Int) := by omega
        have hk1 : (k : Int) < (l.length : Int) := by omega
        obtain ⟨x0, x1, x2⟩ := x
        dsimp only at c0 c1 c2 hxl
        have hsz : (bs x2).size = x2.length := rfl
        by_cases h1000 : x2.length ≤ 1000
        · have d1 : decide ((1000 : Int) < (x2.length : Int)) = false := decide_eq_false (by omega)
          go_wp2_with fail
          go_roundw
          case rel =>
            refine ⟨k + 1, by omega, by go_num, trivial, fun y hy => ?_⟩
            rw [HTK.out] at hy
            rcases List.mem_append.1 hy with hy | hy
            · exact HALL.out y hy
            · simp only [List.mem_singleton] at hy; rw [hy]; exact h1000
          case measure => simp [intOf]; omega
        · have d1 : decide ((1000 : Int) < (x2.length : Int)) = true := decide_eq_true (by omega)
          obtain rfl : false = q := by
            rw [← HQ.out]
            symm
            rw [Bool.and_eq_false_iff]
            refine .inr ?_
            rw [List.all_eq_false]
            exact ⟨_, HMEM.out, by simpa using h1000⟩
          go_wp2_with fail
          go_ret
          exact ⟨rfl, HB.out⟩
      · obtain rfl : k = l.length := by omega
        obtain rfl : true = q := by
          rw [← HQ.out, HL.out, Bool.true_and]
          symm
          rw [List.all_eq_true]
          intro r hr
          have := HALL.out r (by rw [List.take_length]; exact hr)
          simpa using this
        go_wp2_with fail
        go_ret
        exact ⟨rfl, HB.out⟩
  · have d0 : decide ((70 : Int) < (l.length : Int)) = true := decide_eq_true (by omega)
    obtain rfl : false = q := by
      rw [← HQ.out, decide_eq_false h70]
      rfl
    clear h70
    go_enter Tryz.func28, Tryz.ntmps28
    go_wp2_with fail
    go_ret
    exact ⟨rfl, HB.out⟩
end Go.Proofs.YtgjkjkeeblbjlaaGreatDoor

namespace Go.Proofs.YtgjkjkeeblbjlaaGreatDoor
open Go.RowKit

def OutPDeeds (w0 w : World) (base : Nat) (v : Value) (l : List PDeed) : Prop :=
  ∃ q : List PDCell, q.map PDCell.d = l ∧ w.ownsRow base 49 10 v q.length (pdsCells q) ∧ ∀ x ∈ q, x.reads w0

theorem inRow_below8 {w w' : World} {v : Value} {n size : Nat} {xs : List Value} (h : InRow w v n size xs) (hb : Below w.heap.size w w') : InRow w' v n size xs := by
  obtain ⟨h1, ad, cap, h2, h3, h4, h5⟩ := h
  refine ⟨h1, ad, cap, h2, h3, h4, fun j u hu => ?_⟩
  obtain ⟨a, ha, hc⟩ := h5 j u hu
  exact ⟨a, ha, (hb.cell (p := a.add j) (World.block_lt_of_cell? w _ hc)).trans hc⟩

theorem PDCell.reads.below {w w' : World} {x : PDCell} (h : x.reads w) (hb : Below w.heap.size w w') : x.reads w' :=
  ⟨h.1.below hb, h.2.1, inRow_below8 h.2.2 hb⟩

theorem InPDeeds.below {w w' : World} {v : Value} {l : List PDeed} (h : InPDeeds w v l) (hb : Below w.heap.size w w') : InPDeeds w' v l := by
  obtain ⟨q, h1, h2, h3⟩ := h
  exact ⟨q, h1, inRow_below8 h2 hb, fun x hx => (h3 x hx).below hb⟩

/-- The value of a batch's records, if it is light. -/
def lightV (b : PBat) (B : Value) : Value := if b.light = true then B else .slice none 0 0
def lightB (b : PBat) : PBat := if b.light = true then b else PBat.empty

theorem recs_nil (w : World) : InRecs w (.slice none 0 0) [] := ⟨none, 0, rfl, Nat.le_refl _, by decide, fun j u hj => by simp [recCells] at hj⟩

theorem lightV_reads {w : World} {b : PBat} {B : Value} (h : InRecs w B b.l) (ht : ∀ r ∈ b.l, r.text.length ≤ maxLen) : InRecs w (lightV b B) (lightB b).l ∧ ∀ r ∈ (lightB b).l, r.text.length ≤ maxLen := by
  unfold lightV lightB
  split
  · exact ⟨h, ht⟩
  · exact ⟨recs_nil w, fun r hr => by cases hr⟩

theorem Tryz.infoPDeed : (Tryz.prog.info? 49).map (fun i => (i.zero, i.size, i.bytes)) = some (some (.agg #[.int .i64 0, .int .i64 0, .int .i64 0, .bool false, .int .i64 0, .int .i64 0, .int .i64 0, .int .i64 0, .slice none 0 0, .slice none 0 0]), 10, 112) := by kernel_rfl

def FewRel8 (wa w : World) (q : List PDCell) (m : Nat) (c v : Value) (wr : World) : Prop :=
  ∃ (k : Nat) (v1 : Value), k ≤ m ∧ c = .int .i64 k ∧ v1 = v ∧ OutPDeeds wa wr w.heap.size v1 ((q.take k).map fun x => x.d.few) ∧ Below w.heap.size w wr

set_option maxHeartbeats 4000000 in
theorem few08_any {wa w : World} {v : Value} {l : List PDeed} (hba : Below wa.heap.size wa w) (h : InPDeeds wa v l) : Calls Tryz.prog 17 #[v] w fun e w' => ∃ r, e = .returned r ∧ OutPDeeds wa w' w.heap.size r (fewP8 l) ∧ Below w.heap.size w w' := by
  obtain ⟨q, rfl, ⟨hxl, ad, cap, rfl, hcap, hmax, hat⟩, hin⟩ := h
  obtain ⟨m, hm⟩ : ∃ m, m = min q.length 40 := ⟨_, rfl⟩
  have hfew : fewP8 (q.map PDCell.d) = (q.take m).map fun x => x.d.few := by
    unfold fewP8
    rw [← List.map_take, List.map_map, hm]
    by_cases h : q.length ≤ 40
    · rw [Nat.min_eq_left h, List.take_of_length_le h, List.take_length]; rfl
    · rw [Nat.min_eq_right (by omega)]; rfl
  rw [hfew]
  have HAT := hid hat
  have HIN := hid hin
  have HBA := hid hba
  clear hat hin hfew hxl hba
  have hmq : m ≤ q.length := by omega
  have hm50 : m ≤ 40 := by omega
  obtain ⟨i1, hi1, hy0, hy1, hy2⟩ := info_parts Tryz.infoPDeed
  go_enter Tryz.func17, Tryz.ntmps17
  go_upto_if 8 with fail
  go_cut [0] (fun v0 wx => v0 = .slice ad m cap ∧ wx = w)
  case first =>
    by_cases h50 : q.length ≤ 40
    · obtain rfl : m = q.length := by omega
      have hb2 : decide ((40 : Int) < (q.length : Int)) = false := decide_eq_false (by omega)
      clear hm hm50 hmq
      go_wp2_with fail
      go_meet
      exact ⟨rfl, rfl⟩
    · obtain rfl : m = 40 := by omega
      have hb2 : decide ((40 : Int) < (q.length : Int)) = true := decide_eq_true (by omega)
      clear hm hm50
      go_wp2_with fail
      go_meet
      exact ⟨rfl, rfl⟩
  case rest =>
    obtain ⟨rfl, rfl⟩ := hcut
    rename World => w0
    clear hm hcap
    go_wp2_with fail
    go_loopw [4, 3] (fun c v wr => FewRel8 wa w0 q m c v wr) (fun c _ _ => m - (intOf c).toNat)
    case atStart => exact ⟨0, _, by omega, rfl, rfl, ⟨[], rfl, World.ownsRow_nil _ _ _ _, by simp⟩, Below.refl _ _⟩
    case round =>
      obtain ⟨k, v, hk, rfl, rfl, ⟨o, hod, horow, hoall⟩, hb⟩ := hrel
      by_cases hlt : k < m
      · obtain ⟨x, hx⟩ : ∃ x, q[k]? = some x := ⟨_, List.getElem?_eq_getElem (by omega)⟩
        obtain ⟨a, rfl, c0, cr⟩ := inPDeed HAT.out hx
        have HX := hid hx
        have HO := hid (And.intro hod (And.intro horow hoall))
        have HB := hid hb
        have HBX := hid (bel_next HBA.out hb)
        obtain ⟨hrec, htx, ⟨_, ka, kc, hK, hkc, hkm, hkat⟩⟩ := HIN.out x (List.mem_of_getElem? hx)
        clear hx hod horow hoall hb
        obtain ⟨xd, xB, xK⟩ := x
        obtain ⟨xk, xn, xe, xy, xb, keep⟩ := xd
        obtain ⟨bk, bp, be, bs', bl⟩ := xb
        simp only at hK cr c0 hkat hkc hrec htx
        subst hK
        obtain ⟨ba, bc, rfl, hbc, hbm⟩ := hrec.form
        try dsimp only at hbc
        have d0 := (HBX.out.cell (p := a.add (k * 10)) (World.block_lt_of_cell? wa _ c0)).trans c0
        have d1 := (HBX.out.cell (p := ⟨(a.add (k * 10)).block, (a.add (k * 10)).off + 1, none⟩) (World.block_lt_of_cell? wa _ (cr 1 _ (by decide) rfl))).trans (cr 1 _ (by decide) rfl)
        have d2 := (HBX.out.cell (p := ⟨(a.add (k * 10)).block, (a.add (k * 10)).off + 2, none⟩) (World.block_lt_of_cell? wa _ (cr 2 _ (by decide) rfl))).trans (cr 2 _ (by decide) rfl)
        have d3 := (HBX.out.cell (p := ⟨(a.add (k * 10)).block, (a.add (k * 10)).off + 3, none⟩) (World.block_lt_of_cell? wa _ (cr 3 _ (by decide) rfl))).trans (cr 3 _ (by decide) rfl)
        have d4 := (HBX.out.cell (p := ⟨(a.add (k * 10)).block, (a.add (k * 10)).off + 4, none⟩) (World.block_lt_of_cell? wa _ (cr 4 _ (by decide) rfl))).trans (cr 4 _ (by decide) rfl)
        have d5 := (HBX.out.cell (p := ⟨(a.add (k * 10)).block, (a.add (k * 10)).off + 5, none⟩) (World.block_lt_of_cell? wa _ (cr 5 _ (by decide) rfl))).trans (cr 5 _ (by decide) rfl)
        have d6 := (HBX.out.cell (p := ⟨(a.add (k * 10)).block, (a.add (k * 10)).off + 6, none⟩) (World.block_lt_of_cell? wa _ (cr 6 _ (by decide) rfl))).trans (cr 6 _ (by decide) rfl)
        have d7 := (HBX.out.cell (p := ⟨(a.add (k * 10)).block, (a.add (k * 10)).off + 7, none⟩) (World.block_lt_of_cell? wa _ (cr 7 _ (by decide) rfl))).trans (cr 7 _ (by decide) rfl)
        have d8 := (HBX.out.cell (p := ⟨(a.add (k * 10)).block, (a.add (k * 10)).off + 8, none⟩) (World.block_lt_of_cell? wa _ (cr 8 _ (by decide) rfl))).trans (cr 8 _ (by decide) rfl)
        have d9 := (HBX.out.cell (p := ⟨(a.add (k * 10)).block, (a.add (k * 10)).off + 9, none⟩) (World.block_lt_of_cell? wa _ (cr 9 _ (by decide) rfl))).trans (cr 9 _ (by decide) rfl)
        try dsimp only at d0 d1 d2 d3 d4 d5 d6 d7 d8 d9
        obtain ⟨mk, hmk⟩ : ∃ mk, mk = min keep.length 70 := ⟨_, rfl⟩
        have hmkl : mk ≤ keep.length := by omega
        have HMK := hid hmk
        have HKAT := hid hkat
        have HREC := hid hrec
        have HTX := hid htx
        have hb1 : Below w0.heap.size w0 (wr.alloc (.cells #[.int .i64 xk, .int .i64 xn, .int .i64 xe, .bool xy, .int .i64 bk, .int .i64 bp, .int .i64 be, .int .i64 bs', .slice ba bl.length bc, .slice ka keep.length kc] 49)) := bel_alloc HB.out _
        have hk1 := Blk.new wr #[.int .i64 xk, .int .i64 xn, .int .i64 xe, .bool xy, .int .i64 bk, .int .i64 bp, .int .i64 be, .int .i64 bs', .slice ba bl.length bc, .slice ka keep.length kc] 49
        have ho1 := HO.out.2.1.alloc (.cells #[.int .i64 xk, .int .i64 xn, .int .i64 xe, .bool xy, .int .i64 bk, .int .i64 bp, .int .i64 be, .int .i64 bs', .slice ba bl.length bc, .slice ka keep.length kc] 49)
        have hsw := HB.out.size
        have hno : ∀ k, v.ownBlock = some k → ¬ k = wr.heap.size := fun k hk h9 => by have := (HO.out.2.1.lt k hk).2; omega
        have HNO := hid hno
        clear hno
        have HB1 := hid hb1
        have HK1 := hid hk1
        have HO1 := hid ho1
        have hkk0 : (0 : Int) ≤ (k : Int) := by omega
        have hkk1 : (k : Int) < (m : Int) := by omega
        clear c0 cr hkat hrec htx hmk hb1 hk1 ho1
        go_upto_region 8 with fail
        generalize wr.alloc (.cells #[.int .i64 xk, .int .i64 xn, .int .i64 xe, .bool xy, .int .i64 bk, .int .i64 bp, .int .i64 be, .int .i64 bs', .slice ba bl.length bc, .slice ka keep.length kc] 49) = w1 at HB1 HK1 HO1 ⊢
        generalize hbx : wr.heap.size = bx at HK1 hsw HNO ⊢
        clear d0 d1 d2 d3 d4 d5 d6 d7 d8 d9 hbx
        have k4 := HK1.out.cell (i := 4) (v := .int .i64 bk) rfl
        have k5 := HK1.out.cell (i := 5) (v := .int .i64 bp) rfl
        have k6 := HK1.out.cell (i := 6) (v := .int .i64 be) rfl
        have k7 := HK1.out.cell (i := 7) (v := .int .i64 bs') rfl
        have k8 := HK1.out.cell (i := 8) (v := .slice ba bl.length bc) rfl
        go_wp2_with fail
        refine (light_any ⟨bk, bp, be, bs', bl⟩ (.slice ba bl.length bc) _ (HREC.out.below (bel_next HBA.out HB1.out)) HTX.out).mono ?_
        rintro e w2 ⟨rfl, hb2⟩
        have HB2 := hid (bel_next HB1.out hb2)
        have HK2 := hid (HK1.out.below' hb2)
        have HO2 := hid (own_bel HO1.out hb2)
        clear hb2 k4 k5 k6 k7 k8
        go_upto_if 24 with fail
        go_cut [25] (fun _ wx => Below w0.heap.size w0 wx ∧ Blk wx bx #[.int .i64 xk, .int .i64 xn, .int .i64 xe, .bool xy, .int .i64 (lightB ⟨bk, bp, be, bs', bl⟩).kind, .int .i64 (lightB ⟨bk, bp, be, bs', bl⟩).pid, .int .i64 (lightB ⟨bk, bp, be, bs', bl⟩).epoch, .int .i64 (lightB ⟨bk, bp, be, bs', bl⟩).seq, lightV ⟨bk, bp, be, bs', bl⟩ (.slice ba bl.length bc), .slice ka keep.length kc] 49 ∧ wx.ownsRow w0.heap.size 49 10 v o.length (pdsCells o))
        case first =>
          generalize hL : PBat.light ⟨bk, bp, be, bs', bl⟩ = lt
          cases lt with
          | true =>
            have hv : lightV ⟨bk, bp, be, bs', bl⟩ (.slice ba bl.length bc) = .slice ba bl.length bc := if_pos hL
            have hw : lightB ⟨bk, bp, be, bs', bl⟩ = ⟨bk, bp, be, bs', bl⟩ := if_pos hL
            have HV := hid hv
            have HW := hid hw
            clear hv hw hL
            go_wp2_with fail
            go_meet
            rw [HV.out, HW.out]
            exact ⟨HB2.out, HK2.out, HO2.out⟩
          | false =>
            have hv : lightV ⟨bk, bp, be, bs', bl⟩ (.slice ba bl.length bc) = .slice none 0 0 := if_neg (by rw [hL]; decide)
            have hw : lightB ⟨bk, bp, be, bs', bl⟩ = PBat.empty := if_neg (by rw [hL]; decide)
            have HV := hid hv
            have HW := hid hw
            clear hv hw hL
            have z4 := HK2.out.cell (i := 4) (v := .int .i64 bk) rfl
            have z5 := HK2.out.cell (i := 5) (v := .int .i64 bp) rfl
            have z6 := HK2.out.cell (i := 6) (v := .int .i64 be) rfl
            have z7 := HK2.out.cell (i := 7) (v := .int .i64 bs') rfl
            have z8 := HK2.out.cell (i := 8) (v := .slice ba bl.length bc) rfl
            have g4 := HK2.out.free 4
            have g5 := HK2.out.free 5
            have g6 := HK2.out.free 6
            have g7 := HK2.out.free 7
            have g8 := HK2.out.free 8
            have hbS : Below w0.heap.size w0 (((((w2.setCell ⟨bx, 4, none⟩ (.int .i64 0)).setCell ⟨bx, 5, none⟩ (.int .i64 0)).setCell ⟨bx, 6, none⟩ (.int .i64 0)).setCell ⟨bx, 7, none⟩ (.int .i64 0)).setCell ⟨bx, 8, none⟩ (.slice none 0 0)) :=
              (((((HB2.out.setCell (by show _ ≤ bx; omega) _).setCell (by show _ ≤ bx; omega) _).setCell (by show _ ≤ bx; omega) _).setCell (by show _ ≤ bx; omega) _).setCell (by show _ ≤ bx; omega) _)
            have hkS := ((((HK2.out.set 4 (.int .i64 0)).set 5 (.int .i64 0)).set 6 (.int .i64 0)).set 7 (.int .i64 0)).set 8 (.slice none 0 0)
            have hoS : (((((w2.setCell ⟨bx, 4, none⟩ (.int .i64 0)).setCell ⟨bx, 5, none⟩ (.int .i64 0)).setCell ⟨bx, 6, none⟩ (.int .i64 0)).setCell ⟨bx, 7, none⟩ (.int .i64 0)).setCell ⟨bx, 8, none⟩ (.slice none 0 0)).ownsRow w0.heap.size 49 10 v o.length (pdsCells o) := by
              refine row_fr HO2.out (S := fun k => k = bx) ((((((Fr.refl (fun k => k = bx) w2).setCell (p := ⟨bx, 4, none⟩) (.inl rfl) _).setCell (p := ⟨bx, 5, none⟩) (.inl rfl) _).setCell (p := ⟨bx, 6, none⟩) (.inl rfl) _).setCell (p := ⟨bx, 7, none⟩) (.inl rfl) _).setCell (p := ⟨bx, 8, none⟩) (.inl rfl) _) (fun k hk e => ?_)
              exact HNO.out k hk e
            have HBS := hid hbS
            have HKS := hid hkS
            have HOS := hid hoS
            clear hbS hkS hoS
            go_wp2_with fail
            go_meet
            rw [HV.out, HW.out]
            exact ⟨HBS.out, HKS.out, HOS.out⟩
        case rest =>
          obtain ⟨hb2, hk2, ho2⟩ := hcut
          have hlr := lightV_reads (b := ⟨bk, bp, be, bs', bl⟩) HREC.out HTX.out
          have HLR := hid hlr
          obtain ⟨la, lc, hlv, _, _⟩ := hlr.1.form
          have hfb : (PDeed.mk xk xn xe xy ⟨bk, bp, be, bs', bl⟩ keep).few.b = lightB ⟨bk, bp, be, bs', bl⟩ := rfl
          have HFB := hid hfb
          rw [hlv] at hk2 HLR
          clear hlr hlv hfb HK1 HB1 HO1 HK2 HB2 HO2
          generalize hlb : lightB ⟨bk, bp, be, bs', bl⟩ = lb at hk2 HLR HFB
          generalize lb.l.length = ln at hk2 HLR
          have HB2 := hid hb2
          have HK2 := hid hk2
          have HO2 := hid ho2
          have hsw2 := hk2.lt
          clear hb2 hk2 ho2 hlb
          rename World => w2
          have k9 := HK2.out.cell (i := 9) (v := .slice ka keep.length kc) rfl
          go_upto_if 30 with fail
          go_cut [33] (fun _ wx => Below w0.heap.size w0 wx ∧ Blk wx bx #[.int .i64 xk, .int .i64 xn, .int .i64 xe, .bool xy, .int .i64 lb.kind, .int .i64 lb.pid, .int .i64 lb.epoch, .int .i64 lb.seq, .slice la ln lc, .slice ka mk kc] 49 ∧ wx.ownsRow w0.heap.size 49 10 v o.length (pdsCells o))
          case first =>
            by_cases h70 : keep.length ≤ 70
            · obtain rfl : mk = keep.length := by have := HMK.out; omega
              have hb2 : decide ((70 : Int) < (keep.length : Int)) = false := decide_eq_false (by omega)
              go_wp2_with fail
              go_meet
              exact ⟨HB2.out, HK2.out, HO2.out⟩
            · obtain rfl : mk = 70 := by have := HMK.out; omega
              have hb2 : decide ((70 : Int) < (keep.length : Int)) = true := decide_eq_true (by omega)
              have g9 := HK2.out.free 9
              go_wp2_with fail
              go_meet
              refine ⟨HB2.out.setCell (by show _ ≤ bx; omega) _, HK2.out.set 9 (.slice ka 70 kc), row_fr HO2.out (S := fun k => k = bx) ((Fr.refl (fun k => k = bx) w2).setCell (p := ⟨bx, 9, none⟩) (.inl rfl) _) (fun k hk e => ?_)⟩
              exact HNO.out k hk e
          case rest =>
            clear k9
            obtain ⟨hb3, hk3, ho3⟩ := hcut
            have HB3 := hid hb3
            have HK3 := hid hk3
            have HO3 := hid ho3
            have hsw3 := hk3.lt
            rename World => w3
            have hol : o.length = k := by
              have h := congrArg List.length HO.out.1
              rw [List.length_map, List.length_map, List.length_take, Nat.min_eq_left (by omega)] at h
              exact h
            have k0 := HK3.out.cell (i := 0) (v := .int .i64 xk) rfl
            have k1 := HK3.out.cell (i := 1) (v := .int .i64 xn) rfl
            have k2 := HK3.out.cell (i := 2) (v := .int .i64 xe) rfl
            have k3 := HK3.out.cell (i := 3) (v := .bool xy) rfl
            have k4 := HK3.out.cell (i := 4) (v := .int .i64 lb.kind) rfl
            have k5 := HK3.out.cell (i := 5) (v := .int .i64 lb.pid) rfl
            have k6 := HK3.out.cell (i := 6) (v := .int .i64 lb.epoch) rfl
            have k7 := HK3.out.cell (i := 7) (v := .int .i64 lb.seq) rfl
            have k8 := HK3.out.cell (i := 8) (v := .slice la ln lc) rfl
            have k9 := HK3.out.cell (i := 9) (v := .slice ka mk kc) rfl
            clear hb3 hk3 ho3 HK2 HB2 HO2
            go_wp2_with (first
              | (at_builtin; refine wpList_append_own _ rfl _ _ 22 rfl w0.heap.size 49 i1 (.agg #[.int .i64 0, .int .i64 0, .int .i64 0, .bool false, .int .i64 0, .int .i64 0, .int .i64 0, .int .i64 0, .slice none 0 0, .slice none 0 0]) 10 112 Tryz.underlying22 hi1 hy0 hy1 hy2 rfl (by decide) _ _ _ rfl (HO3.out.alloc _) ⟨w3.heap.size, 0, none⟩ 1 1 [.int .i64 xk, .int .i64 xn, .int .i64 xe, .bool xy, .int .i64 lb.kind, .int .i64 lb.pid, .int .i64 lb.epoch, .int .i64 lb.seq, .slice la ln lc, .slice ka mk kc] rfl rfl ?c1 ?c2 ?c3 ?c4 ?c5 ?_))
            case c1 =>
              intro j u hj
              rw [Addr.add_lit, Nat.zero_add]
              refine (Blk.new w3 _ _).cell ?_
              simpa using hj
            case c2 => simp [Value.oneCell']
            case c3 => unfold maxLen; omega
            case c4 => omega
            case c5 => have := HB3.out.size; simp; omega
            intro v' w4 hown1 hgrow _
            have hbw : Below w0.heap.size w0 w4 := bel_append (bel_alloc HB3.out _) (HO3.out.alloc _) (by have := HB3.out.size; simp; omega) hgrow
            have hkeep : InRow wa (.slice ka mk kc) (keep.take 70).length 1 (keepCells (keep.take 70)) := by
              have hl : (keep.take 70).length = mk := by rw [List.length_take, HMK.out, Nat.min_comm]
              refine ⟨by simp [keepCells], ka, kc, by rw [hl], by omega, hkm, fun j u hu => HKAT.out j u ?_⟩
              unfold keepCells at hu ⊢
              rw [List.map_take, List.getElem?_take] at hu
              split at hu
              · exact hu
              · cases hu
            have hfin : OutPDeeds wa w4 w0.heap.size v' ((q.take (k + 1)).map fun x => x.d.few) := by
              refine ⟨o ++ [⟨(PDeed.mk xk xn xe xy ⟨bk, bp, be, bs', bl⟩ keep).few, .slice la ln lc, .slice ka mk kc⟩], ?_, ?_, ?_⟩
              · rw [List.map_append, HO.out.1, List.take_add_one, HX.out, List.map_append]; rfl
              · rw [pdsCells_app, List.length_append, hol]
                have e9 : pdsCells [⟨(PDeed.mk xk xn xe xy ⟨bk, bp, be, bs', bl⟩ keep).few, .slice la ln lc, .slice ka mk kc⟩] = [.int .i64 xk, .int .i64 xn, .int .i64 xe, .bool xy, .int .i64 lb.kind, .int .i64 lb.pid, .int .i64 lb.epoch, .int .i64 lb.seq, .slice la ln lc, .slice ka mk kc] := by
                  unfold pdsCells
                  rw [List.flatMap_cons, List.flatMap_nil, List.append_nil]
                  unfold pdCells
                  dsimp only
                  rw [HFB.out]
                  rfl
                rw [e9]
                exact hown1
              · intro x hx
                rcases List.mem_append.1 hx with hx | hx
                · exact HO.out.2.2 x hx
                · rw [List.mem_singleton] at hx
                  subst hx
                  refine ⟨?_, ?_, hkeep⟩
                  · show InRecs wa (.slice la ln lc) (PDeed.mk xk xn xe xy ⟨bk, bp, be, bs', bl⟩ keep).few.b.l
                    rw [HFB.out]; exact HLR.out.1
                  · show ∀ r ∈ (PDeed.mk xk xn xe xy ⟨bk, bp, be, bs', bl⟩ keep).few.b.l, r.text.length ≤ maxLen
                    rw [HFB.out]; exact HLR.out.2
            have HFIN := hid hfin
            have HBW := hid hbw
            clear hfin hbw hown1 hgrow hkeep
            go_wp2_with fail
            go_roundw
            case rel => exact ⟨k + 1, v', by omega, by go_num, rfl, HFIN.out, HBW.out⟩
            case measure => simp [intOf]; omega
      · obtain rfl : k = m := by omega
        have HEND : Hid (OutPDeeds wa wr w0.heap.size v ((q.take k).map fun x => x.d.few) ∧ Below w0.heap.size w0 wr) := hid ⟨⟨o, hod, horow, hoall⟩, hb⟩
        clear hod horow hoall hb
        go_wp2_with fail
        go_ret
        exact ⟨_, rfl, HEND.out.1, HEND.out.2⟩
end Go.Proofs.YtgjkjkeeblbjlaaGreatDoor
