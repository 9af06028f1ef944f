/-
  made (chapter 8's laws): the walk. Conditions: deeds that read.
-/
import Derived.Test.YtgjkjkeeblbjlaaGreatDoorJNM
import Derived.Test.YtgjkjkeeblbjlaaGreatDoorJOM
import Derived.Test.YtgjkjkeeblbjlaaGreatDoorJJM
import Derived.Test.YtgjkjkeeblbjlaaGreatDoorHJM
import Derived.Deep.DeepCutAuto
set_option maxRecDepth 100000
namespace Go.Proofs.YtgjkjkeeblbjlaaGreatDoor
open Go.RowKit

/-- A row with the value of its records. -/
structure RCell where
  r : PRow
  B : Value
def rwCells (x : RCell) : List Value := [.int .i64 x.r.base, .int .i64 x.r.fin, .int .i64 x.r.b.kind, .int .i64 x.r.b.pid, .int .i64 x.r.b.epoch, .int .i64 x.r.b.seq, x.B]
def rwsCells (q : List RCell) : List Value := q.flatMap rwCells
def RCell.reads (w : World) (x : RCell) : Prop := InRecs w x.B x.r.b.l
def RCell.fin (x : RCell) (f : Int) : RCell := { x with r := { x.r with fin := f } }

theorem rwsCells_app (a b : List RCell) : rwsCells (a ++ b) = rwsCells a ++ rwsCells b := by unfold rwsCells; rw [List.flatMap_append]
theorem rws_len (q : List RCell) : (rwsCells q).length = q.length * 7 := by
  induction q with
  | nil => rfl
  | cons y q ih =>
    have e : rwsCells (y :: q) = rwCells y ++ rwsCells q := rfl
    have e2 : (rwCells y).length = 7 := rfl
    rw [e, List.length_append, ih, e2, List.length_cons]; omega
theorem rws_at : ∀ (q : List RCell) (i : Nat) (x : RCell), q[i]? = some x → ∀ r, r < 7 → (rwsCells q)[i * 7 + r]? = (rwCells x)[r]?
  | [], _, _, h, _, _ => by simp at h
  | y :: q, 0, x, h, r, hr => by
    simp at h
    subst h
    have e : rwsCells (y :: q) = rwCells y ++ rwsCells q := rfl
    have e2 : (rwCells y).length = 7 := rfl
    rw [e, Nat.zero_mul, Nat.zero_add, List.getElem?_append_left (by omega)]
  | y :: q, i + 1, x, h, r, hr => by
    have := rws_at q i x (by simpa using h) r hr
    have e : rwsCells (y :: q) = rwCells y ++ rwsCells q := rfl
    have e2 : (rwCells y).length = 7 := rfl
    rw [e, List.getElem?_append_right (by omega), e2, show (i + 1) * 7 + r - 7 = i * 7 + r from by omega]
    exact this
theorem rws_set : ∀ (q : List RCell) (i : Nat) (x : RCell) (f : Int), q[i]? = some x → rwsCells (q.set i (x.fin f)) = (rwsCells q).set (i * 7 + 1) (.int .i64 f)
  | [], _, _, _, h => by simp at h
  | y :: q, 0, x, f, h => by
    simp at h
    subst h
    have e : rwsCells (y :: q) = rwCells y ++ rwsCells q := rfl
    have e3 : rwsCells ((y :: q).set 0 (y.fin f)) = rwCells (y.fin f) ++ rwsCells q := rfl
    rw [e, e3, List.set_append_left _ _ (by show 1 < 7; decide)]
    rfl
  | y :: q, i + 1, x, f, h => by
    have ih := rws_set q i x f (by simpa using h)
    have e : rwsCells (y :: q) = rwCells y ++ rwsCells q := rfl
    have e2 : (rwCells y).length = 7 := rfl
    have e3 : rwsCells ((y :: q).set (i + 1) (x.fin f)) = rwCells y ++ rwsCells (q.set i (x.fin f)) := rfl
    rw [e, e3, List.set_append_right _ _ (by omega), e2, show (i + 1) * 7 + 1 - 7 = i * 7 + 1 from by omega, ih]
theorem rws_one (l : List RCell) (h : ∀ x ∈ l, x.B.oneCell' = true) : ∀ u ∈ rwsCells l, u.oneCell' = true := by
  intro u hu
  unfold rwsCells at hu
  obtain ⟨x, hx, hu⟩ := List.mem_flatMap.1 hu
  simp only [rwCells, List.mem_cons, List.not_mem_nil, or_false] at hu
  rcases hu with rfl | rfl | rfl | rfl | rfl | rfl | rfl
  · rfl
  · rfl
  · rfl
  · rfl
  · rfl
  · rfl
  · exact h x hx

/-- Rows behind a mark: the first ones are ended. -/
def RCell.ended (pid : Int) (yes : Bool) (x : RCell) : RCell := { x with r := endRow pid yes x.r }
def endTo (pid : Int) (yes : Bool) (k : Nat) (q : List RCell) : List RCell := (q.take k).map (RCell.ended pid yes) ++ q.drop k
theorem endTo_len (pid : Int) (yes : Bool) (k : Nat) (q : List RCell) : (endTo pid yes k q).length = q.length := by
  unfold endTo
  rw [List.length_append, List.length_map, List.length_take, List.length_drop]
  omega
theorem endTo_at {pid : Int} {yes : Bool} {k : Nat} {q : List RCell} {x : RCell} (hx : q[k]? = some x) : (endTo pid yes k q)[k]? = some x := by
  have hk := (List.getElem?_eq_some_iff.1 hx).1
  unfold endTo
  rw [List.getElem?_append_right (by rw [List.length_map, List.length_take]; omega), List.length_map, List.length_take, Nat.min_eq_left (by omega), Nat.sub_self, List.getElem?_drop, Nat.add_zero]
  exact hx
theorem endTo_next {pid : Int} {yes : Bool} {k : Nat} {q : List RCell} {x : RCell} (hx : q[k]? = some x) : endTo pid yes (k + 1) q = (endTo pid yes k q).set k (x.ended pid yes) := by
  have hk := (List.getElem?_eq_some_iff.1 hx).1
  have hd : q.drop k = x :: q.drop (k + 1) := by
    rw [List.drop_eq_getElem_cons hk]
    congr 1
    exact (List.getElem?_eq_some_iff.1 hx).2
  unfold endTo
  rw [List.set_append_right _ _ (by rw [List.length_map, List.length_take]; omega), List.length_map, List.length_take, Nat.min_eq_left (by omega), Nat.sub_self, hd, List.set_cons_zero, List.take_add_one, hx, List.map_append, List.append_assoc]
  rfl
theorem endTo_same {pid : Int} {yes : Bool} {k : Nat} {q : List RCell} {x : RCell} (hx : q[k]? = some x) (h : ¬ (x.r.b.kind = 2 ∧ x.r.b.pid = pid ∧ x.r.fin = 0)) : endTo pid yes (k + 1) q = endTo pid yes k q := by
  rw [endTo_next hx]
  have e : x.ended pid yes = x := by
    unfold RCell.ended endRow
    rw [if_neg h]
  rw [e]
  obtain ⟨h9, e9⟩ := List.getElem?_eq_some_iff.1 (endTo_at (pid := pid) (yes := yes) hx)
  rw [← e9]
  exact List.set_getElem_self h9
theorem endTo_fin {pid : Int} {yes : Bool} {k : Nat} {q : List RCell} {x : RCell} (hx : q[k]? = some x) (h : x.r.b.kind = 2 ∧ x.r.b.pid = pid ∧ x.r.fin = 0) : endTo pid yes (k + 1) q = (endTo pid yes k q).set k (x.fin (if yes then 3 else 4)) := by
  rw [endTo_next hx]
  have e : x.ended pid yes = x.fin (if yes then 3 else 4) := by
    unfold RCell.ended endRow RCell.fin
    rw [if_pos h]
  rw [e]

theorem Tryz.infoPRow : (Tryz.prog.info? 33).map (fun i => (i.zero, i.size, i.bytes)) = some (some (.agg #[.int .i64 0, .int .i64 0, .int .i64 0, .int .i64 0, .int .i64 0, .int .i64 0, .slice none 0 0]), 7, 72) := by kernel_rfl

theorem paOther (p l : Nat) : OtherT (paThing p l) 49 ∧ OtherT (paThing p l) 33 ∧ OtherT (paThing p l) 38 ∧ OtherT (paThing p l) 31 :=
  ⟨⟨show 49 ∉ [82, 91, 58, 111] by decide, by decide⟩, ⟨show 33 ∉ [82, 91, 58, 111] by decide, by decide⟩,
   ⟨show 38 ∉ [82, 91, 58, 111] by decide, by decide⟩, ⟨show 31 ∉ [82, 91, 58, 111] by decide, by decide⟩⟩

/-- Deeds of the call's own, read. -/
theorem outPDeed {w : World} {base : Nat} {v : Value} {q : List PDCell} (h : w.ownsRow base 49 10 v q.length (pdsCells q)) {k : Nat} {x : PDCell} (hx : q[k]? = some x) :
    ∃ g cap, v = .slice (some ⟨g, 0, none⟩) q.length cap ∧ g < w.heap.size ∧ ∀ r u, (pdCells x.d x.B x.K)[r]? = some u → w.cell? ⟨g, k * 10 + r, none⟩ = some u := by
  have hk : k < q.length := (List.getElem?_eq_some_iff.1 hx).1
  rcases Joins.ownsRow_forms h with ⟨_, hz⟩ | ⟨g, cap, rfl⟩
  · omega
  · refine ⟨g, cap, rfl, (h.lt g rfl).2, fun r u hu => ?_⟩
    have hr9 : r < 10 := (List.getElem?_eq_some_iff.1 hu).1
    rw [h.cellAt (k * 10 + r) (by omega), pds_at q k x hx r hr9]
    exact hu

/-- Deeds that are few. -/
structure FewQ (w : World) (q : List PDCell) : Prop where
  reads : ∀ x ∈ q, x.reads w
  light : ∀ x ∈ q, x.d.b.light = true
  len : q.length ≤ 40

theorem fewQ_of {w w' : World} {base : Nat} {v : Value} {l : List PDeed} (h : OutPDeeds w w' base v (fewP8 l)) : ∃ q, w'.ownsRow base 49 10 v q.length (pdsCells q) ∧ FewQ w q := by
  obtain ⟨q, h1, h2, h3⟩ := h
  refine ⟨q, h2, h3, fun x hx => ?_, ?_⟩
  · have h4 : x.d ∈ fewP8 l := by rw [← h1]; exact List.mem_map_of_mem hx
    unfold fewP8 at h4
    obtain ⟨y, _, e⟩ := List.mem_map.1 h4
    rw [← e]
    exact light_few y
  · have h4 := congrArg List.length h1
    unfold fewP8 at h4
    rw [List.length_map, List.length_map, List.length_take] at h4
    omega

theorem light_len {b : PBat} (h : b.light = true) : b.l.length ≤ 70 ∧ ∀ r ∈ b.l, r.text.length ≤ 1000 := by
  unfold PBat.light at h
  rw [Bool.and_eq_true, List.all_eq_true, decide_eq_true_eq] at h
  exact ⟨h.1, fun r hr => by simpa using h.2 r hr⟩

/-- A partition behind deeds, and what was put. -/
structure MadePa (w wr : World) (p l d : Nat) (S SL SD : Nat → Prop) (s : PPart) (A : ALog) (D : PDisk) (k : Nat) (rv : Value) (rows : List RCell) : Prop where
  trio : TrioIn (paThing p l) w wr l d S SL SD s A.toP D
  well : PaWell s A D
  len : A.all.length ≤ k
  row : wr.ownsRow w.heap.size 33 7 rv rows.length (rwsCells rows)
  rlen : rows.length ≤ k
  reads : ∀ x ∈ rows, x.reads w
  inv : RowInv (rows.map RCell.r) s A

def MadePost8 (w : World) (e : Ending) (w' : World) : Prop :=
  ∃ (p l d : Nat) (S SL SD : Nat → Prop) (s : PPart) (A : ALog) (D : PDisk) (rv : Value) (rows : List RCell), e = .returned (.tuple #[.pointer (some ⟨p, 0, none⟩), .pointer (some ⟨d, 0, none⟩), rv, .bool true]) ∧ MadePa w w' p l d S SL SD s A D 40 rv rows

def MadeRel8 (w : World) (p l d : Nat) (v : Value) (q : List PDCell) (rv j : Value) (wr : World) : Prop :=
  ∃ (k : Nat) (s : PPart) (A : ALog) (D : PDisk) (S SL SD : Nat → Prop) (rv1 : Value) (rows : List RCell), k ≤ q.length ∧ j = .int .i64 k ∧ rv1 = rv ∧ MadePa w wr p l d S SL SD s A D k rv1 rows ∧
    wr.ownsRow w.heap.size 49 10 v q.length (pdsCells q)

def RowsRel (w : World) (p l d : Nat) (S SL SD : Nat → Prop) (s : PPart) (L : PLog) (D : PDisk) (v rv : Value) (q : List PDCell) (rows : List RCell) (bx : Nat) (cs : Array Value) (pid : Int) (yes : Bool) (j : Value) (wr : World) : Prop :=
  ∃ k : Nat, k ≤ rows.length ∧ j = .int .i64 k ∧ TrioIn (paThing p l) w wr l d S SL SD s L D ∧ wr.ownsRow w.heap.size 33 7 rv rows.length (rwsCells (endTo pid yes k rows)) ∧ wr.ownsRow w.heap.size 49 10 v q.length (pdsCells q) ∧ Blk wr bx cs 49

set_option maxHeartbeats 16000000 in
theorem made08_any {w : World} {v : Value} {l : List PDeed} (h : InPDeeds w v l) : Calls Tryz.prog 10 #[.int .i64 1000, v] w (MadePost8 w) := by
  obtain ⟨i1, hi1, hy0, hy1, hy2⟩ := info_parts Tryz.infoPRow
  have HI := hid h
  clear h
  go_enter Tryz.func10, Tryz.ntmps10
  go_wp2_with fail
  refine (fresh08_any 1000 1000 w (by decide) paNew1000 dP_open1000).mono ?_
  rintro e w1 ⟨p, ll, d, S, SL, SD, rfl, hm⟩
  have HM := hid hm
  clear hm
  go_wp2_with fail
  refine (few08_any HM.out.bel HI.out).mono ?_
  rintro e w2 ⟨v1, rfl, hout, hb2⟩
  obtain ⟨q, hrow, hfq⟩ := fewQ_of hout
  have HM2 := hid (HM.out.below hb2)
  have HROW := hid (own_base hrow HM.out.bel.size)
  have hrd : ∀ x ∈ q, x.d.b.light = true := hfq.light
  have hq40 := hfq.len
  have hall : ∀ x ∈ q, InRecs w x.B x.d.b.l ∧ ∃ ka kn kc, x.K = .slice ka kn kc := fun x hx => by
    obtain ⟨g1, _, ⟨_, ka, kc, hK, _⟩⟩ := hfq.reads x hx
    exact ⟨g1, ka, _, kc, hK⟩
  have HLI := hid hrd
  have HALL := hid hall
  obtain ⟨va, vc, rfl⟩ := row_slice hrow
  clear hrow hall hb2 hout hfq hrd HI HM
  go_wp2_with fail
  go_loopw [10, 11] (fun rv j wr => MadeRel8 w p ll d (.slice va q.length vc) q rv j wr) (fun _ j _ => q.length - (intOf j).toNat)
  case atStart => exact ⟨0, sP, aP, dP 1000, S, SL, SD, _, [], Nat.zero_le _, rfl, rfl, ⟨HM2.out, paWell_new, Nat.zero_le _, World.ownsRow_nil _ _ _ _, Nat.le_refl _, (fun x hx => by cases hx), rowInv_new⟩, HROW.out⟩
  case round =>
    clear HROW HM2
    obtain ⟨k, s, A, D, S, SL, SD, rv, rows, hk, rfl, rfl, hm, hrow⟩ := hrel
    have HM := hid hm
    have HROW := hid hrow
    clear hm hrow
    by_cases hlt : k < q.length
    · obtain ⟨x, hx⟩ : ∃ x, q[k]? = some x := ⟨_, List.getElem?_eq_getElem hlt⟩
      have hmx := List.mem_of_getElem? hx
      obtain ⟨hrec, ka, kn, kc, hK⟩ := HALL.out x hmx
      have hl70 := light_len (HLI.out x hmx)
      obtain ⟨xd, xB, xK⟩ := x
      obtain ⟨xk, xn, xe, xy, xb, keep⟩ := xd
      obtain ⟨bk, bp, be, bs', bl⟩ := xb
      simp only at hK hrec hl70
      subst hK
      obtain ⟨ba, bc, rfl, _, _⟩ := hrec.form
      obtain ⟨g, cap, hve, hgl, hcells⟩ := outPDeed HROW.out hx
      injection hve with e1 e2 e3
      subst e1 e3
      have d0 := hcells 0 _ rfl
      have d1 := hcells 1 _ rfl
      have d2 := hcells 2 _ rfl
      have d3 := hcells 3 _ rfl
      have d4 := hcells 4 _ rfl
      have d5 := hcells 5 _ rfl
      have d6 := hcells 6 _ rfl
      have d7 := hcells 7 _ rfl
      have d8 := hcells 8 _ rfl
      have d9 := hcells 9 _ rfl
      simp only [Nat.add_zero] at d0
      dsimp only at d0 d1 d2 d3 d4 d5 d6 d7 d8 d9
      have HREC := hid hrec
      have HLT := hid hl70
      have HT1 := hid (HM.out.trio.below (bel_alloc (Below.refl wr.heap.size wr) (.cells #[.int .i64 xk, .int .i64 xn, .int .i64 xe, .bool xy, .int .i64 bk, .int .i64 bp, .int .i64 be, .int .i64 bs', .slice ba bl.length bc, .slice ka kn kc] 49)))
      have HR1 := hid (HM.out.row.alloc (.cells #[.int .i64 xk, .int .i64 xn, .int .i64 xe, .bool xy, .int .i64 bk, .int .i64 bp, .int .i64 be, .int .i64 bs', .slice ba bl.length bc, .slice ka kn kc] 49))
      have HD1 := hid (HROW.out.alloc (.cells #[.int .i64 xk, .int .i64 xn, .int .i64 xe, .bool xy, .int .i64 bk, .int .i64 bp, .int .i64 be, .int .i64 bs', .slice ba bl.length bc, .slice ka kn kc] 49))
      have HK1 := hid (Blk.new wr #[.int .i64 xk, .int .i64 xn, .int .i64 xe, .bool xy, .int .i64 bk, .int .i64 bp, .int .i64 be, .int .i64 bs', .slice ba bl.length bc, .slice ka kn kc] 49)
      clear hx hcells e2 hrec hl70 hmx
      have hrl40 : rows.length ≤ 40 := by have := HM.out.rlen; omega
      have hk0i : (0 : Int) ≤ (k : Int) := by omega
      have hk1i : (k : Int) < (q.length : Int) := by omega
      have hbxg : w.heap.size ≤ wr.heap.size := HM.out.trio.bel.size
      go_upto_region 10 with fail
      generalize wr.alloc (.cells #[.int .i64 xk, .int .i64 xn, .int .i64 xe, .bool xy, .int .i64 bk, .int .i64 bp, .int .i64 be, .int .i64 bs', .slice ba bl.length bc, .slice ka kn kc] 49) = w1 at HT1 HR1 HD1 HK1 ⊢
      generalize hbx : wr.heap.size = bx at HK1 hbxg ⊢
      clear d0 d1 d2 d3 d4 d5 d6 d7 d8 d9 hbx
      have k0 := HK1.out.cell (i := 0) (v := .int .i64 xk) rfl
      have k1 := HK1.out.cell (i := 1) (v := .int .i64 xn) rfl
      have k2 := HK1.out.cell (i := 2) (v := .int .i64 xe) rfl
      have k3 := HK1.out.cell (i := 3) (v := .bool xy) rfl
      have k4 := HK1.out.cell (i := 4) (v := .int .i64 bk) rfl
      have k5 := HK1.out.cell (i := 5) (v := .int .i64 bp) rfl
      have k6 := HK1.out.cell (i := 6) (v := .int .i64 be) rfl
      have k7 := HK1.out.cell (i := 7) (v := .int .i64 bs') rfl
      have k8 := HK1.out.cell (i := 8) (v := .slice ba bl.length bc) rfl
      have hkk : (xk = 0 ∨ xk = 1 ∨ xk = 2 ∨ xk = 3 ∨ xk = 4) ∨ (xk = 5 ∨ xk = 6) ∨ (xk < 0 ∨ 6 < xk) := by omega
      rcases hkk with hkk | hkk | hkk
      · rcases hkk with hkk | hkk | hkk | hkk | hkk
        all_goals (
          rw [hkk] at k0
          clear hkk
          go_wp2_with fail
          refine (paPut_any (N := 1000) ⟨bk, bp, be, bs', bl⟩ (.slice ba bl.length bc) HT1.out.trio (paSmall_of HM.out.well.good) (fun _ => HM.out.well.good) (HREC.out.below HT1.out.bel) (fun r hr => by have := HLT.out.2 r hr; omega) (by have := HLT.out.1; dsimp only; omega)).mono ?_
          rintro e w2 ⟨rfl, hto⟩
          have hr2 := HT1.out.trio.typed hto HR1.out (paOther p ll).2.1.x (paOther p ll).2.1.y
          have hd2 := HT1.out.trio.typed hto HD1.out (paOther p ll).1.x (paOther p ll).1.y
          have hk2 := HT1.out.trio.blk hto HK1.out (paOther p ll).1.x (paOther p ll).1.y
          obtain ⟨S2, SL2, SD2, ht2⟩ := HT1.out.call hto
          have HR2 := hid hr2
          have HD2 := hid hd2
          have HK2 := hid hk2
          clear hr2 hd2 hk2 hto k0 k1 k2 k3 k4 k5 k6 k7 k8
          rcases HM.out.well.put ⟨bk, bp, be, bs', bl⟩ with ⟨A', D', e, hok, hkd, _, _, hw, hall, hnx⟩ | ⟨A', D', n, y, c, e, hcy, hw, hall, hnx⟩
          · rw [e] at ht2 ⊢
            dsimp only at ht2 ⊢
            have HT2 := hid ht2
            have HW2 := hid hw
            have HALL2 := hid hall
            have HNX2 := hid hnx
            have HOK := hid hok
            have HKD := hid hkd
            clear ht2 hw hall hnx hok hkd e
            have k4 := HK2.out.cell (i := 4) (v := .int .i64 bk) rfl
            have k5 := HK2.out.cell (i := 5) (v := .int .i64 bp) rfl
            have k6 := HK2.out.cell (i := 6) (v := .int .i64 be) rfl
            have k7 := HK2.out.cell (i := 7) (v := .int .i64 bs') rfl
            have k8 := HK2.out.cell (i := 8) (v := .slice ba bl.length bc) rfl
            go_wp2_with (first
              | (at_builtin; refine wpList_append_own _ rfl _ _ 25 rfl w.heap.size 33 i1 (.agg #[.int .i64 0, .int .i64 0, .int .i64 0, .int .i64 0, .int .i64 0, .int .i64 0, .slice none 0 0]) 7 72 Tryz.underlying25 hi1 hy0 hy1 hy2 rfl (by decide) _ _ _ rfl (HR2.out.alloc _) ⟨w2.heap.size, 0, none⟩ 1 1 [.int .i64 A.next, .int .i64 0, .int .i64 bk, .int .i64 bp, .int .i64 be, .int .i64 bs', .slice ba bl.length bc] rfl rfl (fun j u hj => by rw [Addr.add_lit, Nat.zero_add]; exact (Blk.new w2 _ _).cell (by simpa using hj)) (by simp [Value.oneCell']) (by have := HM.out.rlen; unfold maxLen; omega) (by have := HM.out.rlen; omega) (by have := HT2.out.bel.size; simp; omega) ?_))
            intro v' w4 hown1 hgrow _
            have ht4 := ((HT2.out.below (bel_alloc (Below.refl _ w2) _)).grown (HR2.out.alloc _) (Nat.le_refl _) (paOther p ll).2.1 hgrow)
            have hd4 := row_byGrown (HD2.out.alloc _) (HR2.out.alloc _) (by decide) hgrow
            have HT4 := hid ht4
            have HD4 := hid hd4
            have HO4 := hid hown1
            clear ht4 hd4 hown1 hgrow
            go_wp2_with fail
            go_roundw
            case rel => exact ⟨k + 1, _, A', D', S2, SL2, SD2, v', rows ++ [⟨⟨A.next, 0, ⟨bk, bp, be, bs', bl⟩⟩, .slice ba bl.length bc⟩], by omega, by go_num, rfl, ⟨HT4.out, HW2.out, by rw [HALL2.out, List.length_append]; have := HM.out.len; simp; omega, by rw [List.length_append, rwsCells_app]; exact HO4.out, by rw [List.length_append]; have := HM.out.rlen; simp; omega, fun x hx => (by rcases List.mem_append.1 hx with hx | hx; exact HM.out.reads x hx; rw [List.mem_singleton] at hx; subst hx; exact HREC.out), by rw [List.map_append]; exact HM.out.inv.put HM.out.well.good HOK.out HKD.out HALL2.out HNX2.out⟩, HD4.out⟩
            case measure => simp [intOf]; omega
          · rw [e] at ht2 ⊢
            dsimp only at ht2 ⊢
            have HT2 := hid ht2
            have HW2 := hid hw
            have HALL2 := hid hall
            have HNX2 := hid hnx
            clear ht2 hw hall hnx e
            by_cases hc : c = 0
            · obtain rfl : y = true := hcy.resolve_left (fun h9 => h9 hc)
              subst hc
              clear hcy
              go_wp2_with fail
              go_roundw
              case rel => exact ⟨k + 1, s, A', D', S2, SL2, SD2, _, rows, by omega, by go_num, rfl, ⟨HT2.out, HW2.out, by rw [HALL2.out]; have := HM.out.len; omega, HR2.out, by have := HM.out.rlen; omega, HM.out.reads, HM.out.inv.same HALL2.out HNX2.out⟩, HD2.out⟩
              case measure => simp [intOf]; omega
            · have hc1 : (c != 0) = true := by simpa using hc
              have hc2 : decide (c = 0) = false := decide_eq_false hc
              have hc3 : (c == 0) = false := by simpa using hc
              clear hcy hc
              go_wp2_with fail
              go_roundw
              case rel => exact ⟨k + 1, s, A', D', S2, SL2, SD2, _, rows, by omega, by go_num, rfl, ⟨HT2.out, HW2.out, by rw [HALL2.out]; have := HM.out.len; omega, HR2.out, by have := HM.out.rlen; omega, HM.out.reads, HM.out.inv.same HALL2.out HNX2.out⟩, HD2.out⟩
              case measure => simp [intOf]; omega)
      · rcases hkk with hkk | hkk
        all_goals (
          rw [hkk] at k0
          clear hkk
          go_wp2_with fail
          refine (paEnd_any HT1.out.trio).mono ?_
          rintro e w' ⟨rfl, rfl⟩
          go_wp2_with fail
          refine (paMark_any (N := 1000) xn xe xy HT1.out.trio (paSmall_of HM.out.well.good) (fun _ => HM.out.well.good)).mono ?_
          rintro e w2 ⟨rfl, hto⟩
          have hr2 := HT1.out.trio.typed hto HR1.out (paOther p ll).2.1.x (paOther p ll).2.1.y
          have hd2 := HT1.out.trio.typed hto HD1.out (paOther p ll).1.x (paOther p ll).1.y
          have hk2 := HT1.out.trio.blk hto HK1.out (paOther p ll).1.x (paOther p ll).1.y
          obtain ⟨S2, SL2, SD2, ht2⟩ := HT1.out.call hto
          have HR2 := hid hr2
          have HD2 := hid hd2
          have HK2 := hid hk2
          clear hr2 hd2 hk2 hto k0 k1 k2 k3 k4 k5 k6 k7 k8
          rcases HM.out.well.mark xn xe xy with ⟨A', D', o, e, hok, ho, hw, hall, hnx⟩ | ⟨A', D', c, e, hw, hall, hnx⟩
          · rw [e] at ht2 ⊢
            dsimp only at ht2 ⊢
            have HT2 := hid ht2
            have HW2 := hid hw
            have HALL2 := hid hall
            have HNX2 := hid hnx
            have HOK := hid hok
            have HOP := hid ho
            have hne : ¬ A'.toP.next = A.toP.next := fun h9 => by have h8 : A'.next = A.next := h9; have h7 : A'.next = A.next + 1 := hnx; omega
            have hq1 : decide (A'.toP.next = A.toP.next) = false := decide_eq_false hne
            have hq2 : (A'.toP.next == A.toP.next) = false := by simpa using hne
            clear ht2 hw hall hnx hok ho e hne
            go_wp2_with fail
            refine (paEnd_any HT2.out.trio).mono ?_
            rintro e w' ⟨rfl, rfl⟩
            go_wp2_with fail
            obtain ⟨ra, rcap, rfl⟩ := row_slice HR2.out
            have hinv := HM.out.inv.mark HM.out.well.good HOP.out HOK.out HALL2.out HNX2.out
            rw [List.map_map] at hinv
            have HINV : Hid (RowInv ((rows.map (RCell.ended xn xy)).map RCell.r) (s.took (markOf xn xe xy) A.next) A') := hid (by rw [List.map_map]; exact hinv)
            clear hinv
            generalize s.took (markOf xn xe xy) A.next = s2 at HT2 HW2 HINV
            go_loopw [18] (fun j wx => RowsRel w p ll d S2 SL2 SD2 s2 A'.toP D' (.slice (some ⟨g, 0, none⟩) q.length vc) (.slice ra rows.length rcap) q rows bx #[.int .i64 xk, .int .i64 xn, .int .i64 xe, .bool xy, .int .i64 bk, .int .i64 bp, .int .i64 be, .int .i64 bs', .slice ba bl.length bc, .slice ka kn kc] xn xy j wx) (fun j _ => rows.length - (intOf j).toNat)
            case atStart => exact ⟨0, Nat.zero_le _, rfl, HT2.out, by simpa [endTo] using HR2.out, HD2.out, HK2.out⟩
            case round =>
              obtain ⟨j, hj, rfl, htx, hrx, hdx, hkx⟩ := hrel
              have HTX := hid htx
              have HRX := hid hrx
              have HDX := hid hdx
              have HKX := hid hkx
              clear htx hrx hdx hkx
              clear HT2 HR2 HD2 HK2
              rename World => wx
              by_cases hjl : j < rows.length
              · obtain ⟨y, hy⟩ : ∃ y, rows[j]? = some y := ⟨_, List.getElem?_eq_getElem hjl⟩
                have hya := endTo_at (pid := xn) (yes := xy) hy
                have hlen := endTo_len xn xy j rows
                obtain ⟨gr, rfl⟩ : ∃ gr, ra = some ⟨gr, 0, none⟩ := by
                  rcases Joins.ownsRow_forms HRX.out with ⟨_, hz⟩ | ⟨g9, cap9, h9⟩
                  · omega
                  · injection h9 with h9; exact ⟨g9, h9⟩
                have hcl : ∀ r u, (rwCells y)[r]? = some u → wx.cell? ⟨gr, j * 7 + r, none⟩ = some u := fun r u hu => by
                  have hr7 : r < 7 := (List.getElem?_eq_some_iff.1 hu).1
                  rw [HRX.out.cellAt (j * 7 + r) (by omega), rws_at _ j y hya r hr7]
                  exact hu
                have r1 := hcl 1 _ rfl
                have r2 := hcl 2 _ rfl
                have r3 := hcl 3 _ rfl
                have b1 := HKX.out.cell (i := 1) (v := .int .i64 xn) rfl
                have b3 := HKX.out.cell (i := 3) (v := .bool xy) rfl
                have hj0 : (0 : Int) ≤ (j : Int) := by omega
                have hj1 : (j : Int) < (rows.length : Int) := by omega
                have HY := hid hy
                clear hcl hya hy hlen
                obtain ⟨⟨yb, yf, ⟨yk, yp, ye, ys, yl⟩⟩, yB⟩ := y
                dsimp only at r1 r2 r3
                by_cases hk2 : yk = 2
                · subst hk2
                  by_cases hp2 : yp = xn
                  · have hp3 : decide (yp = xn) = true := decide_eq_true hp2
                    have hp4 : (yp == xn) = true := by simpa using hp2
                    by_cases hf2 : yf = 0
                    · subst hf2
                      have HE := hid (endTo_fin (pid := xn) (yes := xy) HY.out ⟨rfl, hp2, rfl⟩)
                      clear hp2
                      go_wp2_with fail
                      refine wp_region_lex (fun w' => w'.cell? ⟨gr, j * 7 + 1, none⟩ = some (.int .i64 0) ∧ w'.cell? ⟨gr, j * 7 + 2, none⟩ = some (.int .i64 2) ∧ w'.cell? ⟨gr, j * 7 + 3, none⟩ = some (.int .i64 yp) ∧ w'.cell? ⟨bx, 1, none⟩ = some (.int .i64 xn)) [] (by kernel_rfl) (by kernel_rfl) (fun _ _ _ _ _ h => h) (by go_keep) (fun hHeld => ?_)
                      iterate 26
                        refine lex_take (v := ?_) (by kernel_rfl) (by kernel_rfl) ?_ ?_
                        rotate_left
                        focus
                          intro w' hSw
                          try dsimp only at hSw
                          go_simp <;> with_reducible rfl
                        simp only [Act.put, List.setIfInBounds_toArray, List.set_cons_zero, List.set_cons_succ]
                      refine lex_nil ?_
                      clear hHeld r1 r2 r3 b1 b3
                      have HTZ := hid (HTX.out.below (Below.refl _ wx).drew)
                      have HRZ := hid (own_bel HRX.out (Below.refl _ wx).drew)
                      have HDZ := hid (own_bel HDX.out (Below.refl _ wx).drew)
                      have HKZ := hid (HKX.out.below' (Below.refl _ wx).drew)
                      clear HTX HRX HDX HKX
                      generalize wx.drew = wz at HTZ HRZ HDZ HKZ ⊢
                      have HT9 := hid (HTZ.out.cell HRZ.out (Nat.le_refl _) (paOther p ll).2.1 (j * 7 + 1) (.int .i64 4))
                      have HR9 := hid (own_set HRZ.out (j * 7 + 1) (.int .i64 4))
                      have HD9 := hid (row_byCell HDZ.out HRZ.out (by decide) (j * 7 + 1) (.int .i64 4))
                      have HK9 := hid (blk_byCell HKZ.out HRZ.out (by decide) (j * 7 + 1) (.int .i64 4))
                      have hfree := row_free HRZ.out (j * 7 + 1)
                      have r1z : wz.cell? ⟨gr, j * 7 + 1, none⟩ = some (.int .i64 0) := (HRZ.out.cellAt (j * 7 + 1) (by have := endTo_len xn xy j rows; omega)).trans (by rw [rws_at _ j _ (endTo_at HY.out) 1 (by decide)]; rfl)
                      clear HTZ HRZ HDZ HKZ
                      cases xy with
                      | false =>
                        go_upto_region 29 with fail
                        generalize wz.setCell ⟨gr, j * 7 + 1, none⟩ (.int .i64 4) = wy at HT9 HR9 HD9 HK9 ⊢
                        clear hfree r1z
                        have b3 := HK9.out.cell (i := 3) (v := .bool false) rfl
                        go_wp2_with fail
                        go_roundw
                        case rel => exact ⟨j + 1, by omega, by go_num, HT9.out, by rw [HE.out, rws_set _ j _ _ (endTo_at HY.out)]; exact HR9.out, HD9.out, HK9.out⟩
                        case measure => simp [intOf]; omega
                      | true =>
                        go_upto_region 29 with fail
                        generalize wz.setCell ⟨gr, j * 7 + 1, none⟩ (.int .i64 4) = wy at HT9 HR9 HD9 HK9 ⊢
                        clear hfree r1z
                        have b3 := HK9.out.cell (i := 3) (v := .bool true) rfl
                        have hfree := row_free HR9.out (j * 7 + 1)
                        have r1y : wy.cell? ⟨gr, j * 7 + 1, none⟩ = some (.int .i64 4) := (HR9.out.cellAt (j * 7 + 1) (by have := endTo_len xn true j rows; omega)).trans (by rw [List.getElem?_set_self (by rw [rws_len, endTo_len]; omega)])
                        have HTA := hid (HT9.out.cell HR9.out (Nat.le_refl _) (paOther p ll).2.1 (j * 7 + 1) (.int .i64 3))
                        have HRA := hid (own_set HR9.out (j * 7 + 1) (.int .i64 3))
                        have HDA := hid (row_byCell HD9.out HR9.out (by decide) (j * 7 + 1) (.int .i64 3))
                        have HKA := hid (blk_byCell HK9.out HR9.out (by decide) (j * 7 + 1) (.int .i64 3))
                        clear HT9 HR9 HD9 HK9
                        go_wp2_with fail
                        go_roundw
                        case rel => exact ⟨j + 1, by omega, by go_num, HTA.out, by rw [HE.out, rws_set _ j _ _ (endTo_at HY.out)]; have h9 := HRA.out; rw [List.set_set] at h9; exact h9, HDA.out, HKA.out⟩
                        case measure => simp [intOf]; omega
                    · have hf3 : decide (yf = 0) = false := decide_eq_false hf2
                      have hf4 : (yf == 0) = false := by simpa using hf2
                      have HE := hid (endTo_same (pid := xn) (yes := xy) HY.out (fun h9 => hf2 h9.2.2))
                      clear hp2 hf2
                      go_wp2_with fail
                      refine wp_region_lex (fun w' => w'.cell? ⟨gr, j * 7 + 1, none⟩ = some (.int .i64 yf) ∧ w'.cell? ⟨gr, j * 7 + 2, none⟩ = some (.int .i64 2) ∧ w'.cell? ⟨gr, j * 7 + 3, none⟩ = some (.int .i64 yp) ∧ w'.cell? ⟨bx, 1, none⟩ = some (.int .i64 xn)) [] (by kernel_rfl) (by kernel_rfl) (fun _ _ _ _ _ h => h) (by go_keep) (fun hHeld => ?_)
                      iterate 26
                        refine lex_take (v := ?_) (by kernel_rfl) (by kernel_rfl) ?_ ?_
                        rotate_left
                        focus
                          intro w' hSw
                          try dsimp only at hSw
                          go_simp <;> with_reducible rfl
                        simp only [Act.put, List.setIfInBounds_toArray, List.set_cons_zero, List.set_cons_succ]
                      refine lex_nil ?_
                      clear hHeld r1 r2 r3 b1 b3
                      have HTZ := hid (HTX.out.below (Below.refl _ wx).drew)
                      have HRZ := hid (own_bel HRX.out (Below.refl _ wx).drew)
                      have HDZ := hid (own_bel HDX.out (Below.refl _ wx).drew)
                      have HKZ := hid (HKX.out.below' (Below.refl _ wx).drew)
                      clear HTX HRX HDX HKX
                      generalize wx.drew = wz at HTZ HRZ HDZ HKZ ⊢
                      go_wp2_with fail
                      go_roundw
                      case rel => exact ⟨j + 1, by omega, by go_num, HTZ.out, by rw [HE.out]; exact HRZ.out, HDZ.out, HKZ.out⟩
                      case measure => simp [intOf]; omega
                  · have hp3 : decide (yp = xn) = false := decide_eq_false hp2
                    have hp4 : (yp == xn) = false := by simpa using hp2
                    have HE := hid (endTo_same (pid := xn) (yes := xy) HY.out (fun h9 => hp2 h9.2.1))
                    clear hp2
                    go_wp2_with fail
                    refine wp_region_lex (fun w' => w'.cell? ⟨gr, j * 7 + 1, none⟩ = some (.int .i64 yf) ∧ w'.cell? ⟨gr, j * 7 + 2, none⟩ = some (.int .i64 2) ∧ w'.cell? ⟨gr, j * 7 + 3, none⟩ = some (.int .i64 yp) ∧ w'.cell? ⟨bx, 1, none⟩ = some (.int .i64 xn)) [] (by kernel_rfl) (by kernel_rfl) (fun _ _ _ _ _ h => h) (by go_keep) (fun hHeld => ?_)
                    iterate 19
                      refine lex_take (v := ?_) (by kernel_rfl) (by kernel_rfl) ?_ ?_
                      rotate_left
                      focus
                        intro w' hSw
                        try dsimp only at hSw
                        go_simp <;> with_reducible rfl
                      simp only [Act.put, List.setIfInBounds_toArray, List.set_cons_zero, List.set_cons_succ]
                    iterate 6
                      refine lex_skip (by kernel_rfl) ?_
                      simp only [Act.put, List.setIfInBounds_toArray, List.set_cons_zero, List.set_cons_succ]
                    iterate 1
                      refine lex_take (v := ?_) (by kernel_rfl) (by kernel_rfl) ?_ ?_
                      rotate_left
                      focus
                        intro w' hSw
                        try dsimp only at hSw
                        go_simp <;> with_reducible rfl
                      simp only [Act.put, List.setIfInBounds_toArray, List.set_cons_zero, List.set_cons_succ]
                    refine lex_nil ?_
                    clear hHeld r1 r2 r3 b1 b3
                    have HTZ := hid (HTX.out.below (Below.refl _ wx).drew)
                    have HRZ := hid (own_bel HRX.out (Below.refl _ wx).drew)
                    have HDZ := hid (own_bel HDX.out (Below.refl _ wx).drew)
                    have HKZ := hid (HKX.out.below' (Below.refl _ wx).drew)
                    clear HTX HRX HDX HKX
                    generalize wx.drew = wz at HTZ HRZ HDZ HKZ ⊢
                    go_wp2_with fail
                    go_roundw
                    case rel => exact ⟨j + 1, by omega, by go_num, HTZ.out, by rw [HE.out]; exact HRZ.out, HDZ.out, HKZ.out⟩
                    case measure => simp [intOf]; omega
                · have hk3 : decide (yk = 2) = false := decide_eq_false hk2
                  have hk4 : (yk == 2) = false := by simpa using hk2
                  have HE := hid (endTo_same (pid := xn) (yes := xy) HY.out (fun h9 => hk2 h9.1))
                  clear hk2
                  go_wp2_with fail
                  refine wp_region_lex (fun w' => w'.cell? ⟨gr, j * 7 + 1, none⟩ = some (.int .i64 yf) ∧ w'.cell? ⟨gr, j * 7 + 2, none⟩ = some (.int .i64 yk) ∧ w'.cell? ⟨gr, j * 7 + 3, none⟩ = some (.int .i64 yp) ∧ w'.cell? ⟨bx, 1, none⟩ = some (.int .i64 xn)) [] (by kernel_rfl) (by kernel_rfl) (fun _ _ _ _ _ h => h) (by go_keep) (fun hHeld => ?_)
                  iterate 8
                    refine lex_take (v := ?_) (by kernel_rfl) (by kernel_rfl) ?_ ?_
                    rotate_left
                    focus
                      intro w' hSw
                      try dsimp only at hSw
                      go_simp <;> with_reducible rfl
                    simp only [Act.put, List.setIfInBounds_toArray, List.set_cons_zero, List.set_cons_succ]
                  iterate 9
                    refine lex_skip (by kernel_rfl) ?_
                    simp only [Act.put, List.setIfInBounds_toArray, List.set_cons_zero, List.set_cons_succ]
                  iterate 2
                    refine lex_take (v := ?_) (by kernel_rfl) (by kernel_rfl) ?_ ?_
                    rotate_left
                    focus
                      intro w' hSw
                      try dsimp only at hSw
                      go_simp <;> with_reducible rfl
                    simp only [Act.put, List.setIfInBounds_toArray, List.set_cons_zero, List.set_cons_succ]
                  iterate 6
                    refine lex_skip (by kernel_rfl) ?_
                    simp only [Act.put, List.setIfInBounds_toArray, List.set_cons_zero, List.set_cons_succ]
                  iterate 1
                    refine lex_take (v := ?_) (by kernel_rfl) (by kernel_rfl) ?_ ?_
                    rotate_left
                    focus
                      intro w' hSw
                      try dsimp only at hSw
                      go_simp <;> with_reducible rfl
                    simp only [Act.put, List.setIfInBounds_toArray, List.set_cons_zero, List.set_cons_succ]
                  refine lex_nil ?_
                  clear hHeld r1 r2 r3 b1 b3
                  have HTZ := hid (HTX.out.below (Below.refl _ wx).drew)
                  have HRZ := hid (own_bel HRX.out (Below.refl _ wx).drew)
                  have HDZ := hid (own_bel HDX.out (Below.refl _ wx).drew)
                  have HKZ := hid (HKX.out.below' (Below.refl _ wx).drew)
                  clear HTX HRX HDX HKX
                  generalize wx.drew = wz at HTZ HRZ HDZ HKZ ⊢
                  go_wp2_with fail
                  go_roundw
                  case rel => exact ⟨j + 1, by omega, by go_num, HTZ.out, by rw [HE.out]; exact HRZ.out, HDZ.out, HKZ.out⟩
                  case measure => simp [intOf]; omega
              · obtain rfl : j = rows.length := by omega
                have hend : endTo xn xy rows.length rows = rows.map (RCell.ended xn xy) := by unfold endTo; rw [List.take_length, List.drop_length, List.append_nil]
                rw [hend] at HRX
                clear hend
                go_wp2_with fail
                go_roundw
                case rel => exact ⟨k + 1, s2, A', D', S2, SL2, SD2, _, rows.map (RCell.ended xn xy), by omega, by go_num, rfl, ⟨HTX.out, HW2.out, by rw [HALL2.out, List.length_append]; have := HM.out.len; simp; omega, by rw [List.length_map]; exact HRX.out, by rw [List.length_map]; have := HM.out.rlen; omega, fun x hx => (by obtain ⟨y, hy, rfl⟩ := List.mem_map.1 hx; have h9 := HM.out.reads y hy; unfold RCell.reads RCell.ended; dsimp only; rw [(endRow_b xn xy y.r).1]; exact h9), HINV.out⟩, HDX.out⟩
                case measure => simp [intOf]; omega
          · rw [e] at ht2 ⊢
            dsimp only at ht2 ⊢
            have HT2 := hid ht2
            have HW2 := hid hw
            have HALL2 := hid hall
            have HNX2 := hid hnx
            have hq1 : decide (A'.toP.next = A.toP.next) = true := decide_eq_true hnx
            have hq2 : (A'.toP.next == A.toP.next) = true := by have h9 : A'.toP.next = A.toP.next := hnx; simpa using h9
            clear ht2 hw hall hnx e
            by_cases hc : c = 0
            · subst hc
              go_wp2_with fail
              refine (paEnd_any HT2.out.trio).mono ?_
              rintro e w' ⟨rfl, rfl⟩
              go_wp2_with fail
              go_roundw
              case rel => exact ⟨k + 1, s, A', D', S2, SL2, SD2, _, rows, by omega, by go_num, rfl, ⟨HT2.out, HW2.out, by rw [HALL2.out]; have := HM.out.len; omega, HR2.out, by have := HM.out.rlen; omega, HM.out.reads, HM.out.inv.same HALL2.out HNX2.out⟩, HD2.out⟩
              case measure => simp [intOf]; omega
            · have hc1 : (c != 0) = true := by simpa using hc
              have hc2 : decide (c = 0) = false := decide_eq_false hc
              have hc3 : (c == 0) = false := by simpa using hc
              clear hc
              go_wp2_with fail
              go_roundw
              case rel => exact ⟨k + 1, s, A', D', S2, SL2, SD2, _, rows, by omega, by go_num, rfl, ⟨HT2.out, HW2.out, by rw [HALL2.out]; have := HM.out.len; omega, HR2.out, by have := HM.out.rlen; omega, HM.out.reads, HM.out.inv.same HALL2.out HNX2.out⟩, HD2.out⟩
              case measure => simp [intOf]; omega)
      · have n0 : decide (xk = 0) = false := decide_eq_false (by omega)
        have m0 : (xk == 0) = false := beq_eq_false_iff_ne.2 (by omega)
        have n1 : decide (xk = 1) = false := decide_eq_false (by omega)
        have m1 : (xk == 1) = false := beq_eq_false_iff_ne.2 (by omega)
        have n2 : decide (xk = 2) = false := decide_eq_false (by omega)
        have m2 : (xk == 2) = false := beq_eq_false_iff_ne.2 (by omega)
        have n3 : decide (xk = 3) = false := decide_eq_false (by omega)
        have m3 : (xk == 3) = false := beq_eq_false_iff_ne.2 (by omega)
        have n4 : decide (xk = 4) = false := decide_eq_false (by omega)
        have m4 : (xk == 4) = false := beq_eq_false_iff_ne.2 (by omega)
        have n5 : decide (xk = 5) = false := decide_eq_false (by omega)
        have m5 : (xk == 5) = false := beq_eq_false_iff_ne.2 (by omega)
        have n6 : decide (xk = 6) = false := decide_eq_false (by omega)
        have m6 : (xk == 6) = false := beq_eq_false_iff_ne.2 (by omega)
        clear hkk
        go_wp2_with fail
        go_roundw
        case rel => exact ⟨k + 1, s, A, D, S, SL, SD, _, rows, by omega, by go_num, rfl, ⟨HT1.out, HM.out.well, by have := HM.out.len; omega, HR1.out, by have := HM.out.rlen; omega, HM.out.reads, HM.out.inv⟩, HD1.out⟩
        case measure => simp [intOf]; omega
    · obtain rfl : k = q.length := by omega
      clear hlt HALL HROW
      go_wp2_with fail
      exact ⟨rfl, .tuple #[.pointer (some ⟨p, 0, none⟩), .pointer (some ⟨d, 0, none⟩), rv, .bool true], by simp [results, Tryz.results10, go_sem], p, ll, d, S, SL, SD, s, A, D, rv, rows, rfl, ⟨HM.out.trio, HM.out.well, by have := HM.out.len; omega, HM.out.row, by have := HM.out.rlen; omega, HM.out.reads, HM.out.inv⟩⟩
end Go.Proofs.YtgjkjkeeblbjlaaGreatDoor
