/-
  Rows that are the same are told to be (chapter 8's references): the walks. Conditions: rows of the call's own.
  every (chapter 8's laws): the walk. Conditions: a partition whose log is short.
-/
import Derived.Test.YtgjkjkeeblbjlaaGreatDoorJGM
import Derived.Test.YtgjkjkeeblbjlaaGreatDoorJDM
import Derived.BigQuiet
import Derived.Deep.QuietTactic
import Derived.Test.YtgjkjkeeblbjlaaGreatDoorJMM
import Derived.Laws.AppendOwnNone
import Derived.Deep.DeepCutAuto
set_option maxRecDepth 100000
namespace Go.Proofs.YtgjkjkeeblbjlaaGreatDoor
open Go.RowKit

def Drew8 (w : World) (b : Bool) (e : Ending) (w' : World) : Prop := e = .returned (.bool b) ∧ ∃ n, w' = w.drewN n

theorem gotCells_on : ∀ (l : List PGot) (k : Nat) (x : PGot), l[k]? = some x → ∀ r, r < 4 → (gotCells l)[k * 4 + r]? = x.cells[r]?
  | [], _, _, h, _, _ => by simp at h
  | y :: l, 0, x, h, r, hr => by
    simp at h
    subst h
    have e : gotCells (y :: l) = y.cells ++ gotCells l := rfl
    have e2 : y.cells.length = 4 := rfl
    rw [e, Nat.zero_mul, Nat.zero_add, List.getElem?_append_left (by omega)]
  | y :: l, k + 1, x, h, r, hr => by
    have := gotCells_on l k x (by simpa using h) r hr
    have e : gotCells (y :: l) = y.cells ++ gotCells l := rfl
    have e2 : y.cells.length = 4 := rfl
    rw [e, List.getElem?_append_right (by omega), e2, show (k + 1) * 4 + r - 4 = k * 4 + r from by omega]
    exact this

set_option maxHeartbeats 1000000 in
theorem sameGot_eq {w : World} {va vb : Value} {ba bb : Nat} {a : List PGot} (ha : w.ownsRow ba 38 4 va a.length (gotCells a)) (hb : w.ownsRow bb 38 4 vb a.length (gotCells a)) (la : a.length ≤ 1000000) :
    Calls Tryz.prog 14 #[va, vb] w (Drew8 w true) := by
  obtain ⟨ada, capa, rfl⟩ := row_slice ha
  obtain ⟨adb, capb, rfl⟩ := row_slice hb
  have HA := hid ha
  have HB := hid hb
  clear ha hb
  have hne : ((a.length : Int) != (a.length : Int)) = false := by simp
  go_enter Tryz.func14, Tryz.ntmps14
  go_wp2_with fail
  go_loopw [5] (fun c wr => ∃ (k n : Nat), k ≤ a.length ∧ c = .int .i64 k ∧ wr = w.drewN n) (fun c _ => a.length - (intOf c).toNat)
  case atStart => exact ⟨0, 0, by omega, rfl, rfl⟩
  case round =>
    obtain ⟨k, n, hk, rfl, rfl⟩ := hrel
    by_cases hlt : k < a.length
    · obtain ⟨x, hx⟩ : ∃ x, a[k]? = some x := ⟨_, List.getElem?_eq_getElem hlt⟩
      obtain ⟨ga, rfl⟩ : ∃ ga, ada = some ⟨ga, 0, none⟩ := by
        rcases Joins.ownsRow_forms HA.out with ⟨_, hz⟩ | ⟨g, cap, h9⟩
        · omega
        · injection h9 with h9; exact ⟨g, h9⟩
      obtain ⟨gb, rfl⟩ : ∃ gb, adb = some ⟨gb, 0, none⟩ := by
        rcases Joins.ownsRow_forms HB.out with ⟨_, hz⟩ | ⟨g, cap, h9⟩
        · omega
        · injection h9 with h9; exact ⟨g, h9⟩
      have e := gotCells_on a k x hx
      have a0 : w.cell? ⟨ga, k * 4, none⟩ = some (.int .i64 (x.off)) := (HA.out.cellAt (k * 4) (by omega)).trans (e 0 (by decide))
      have a1 : w.cell? ⟨ga, k * 4 + 1, none⟩ = some (.int .i64 (x.r.key)) := (HA.out.cellAt (k * 4 + 1) (by omega)).trans (e 1 (by decide))
      have a2 : w.cell? ⟨ga, k * 4 + 2, none⟩ = some (.int .i64 (x.r.time)) := (HA.out.cellAt (k * 4 + 2) (by omega)).trans (e 2 (by decide))
      have a3 : w.cell? ⟨ga, k * 4 + 3, none⟩ = some (.string (bs x.r.text)) := (HA.out.cellAt (k * 4 + 3) (by omega)).trans (e 3 (by decide))
      have b0 : w.cell? ⟨gb, k * 4, none⟩ = some (.int .i64 (x.off)) := (HB.out.cellAt (k * 4) (by omega)).trans (e 0 (by decide))
      have b1 : w.cell? ⟨gb, k * 4 + 1, none⟩ = some (.int .i64 (x.r.key)) := (HB.out.cellAt (k * 4 + 1) (by omega)).trans (e 1 (by decide))
      have b2 : w.cell? ⟨gb, k * 4 + 2, none⟩ = some (.int .i64 (x.r.time)) := (HB.out.cellAt (k * 4 + 2) (by omega)).trans (e 2 (by decide))
      have b3 : w.cell? ⟨gb, k * 4 + 3, none⟩ = some (.string (bs x.r.text)) := (HB.out.cellAt (k * 4 + 3) (by omega)).trans (e 3 (by decide))
      clear hx e
      have hk0 : (0 : Int) ≤ (k : Int) := Int.natCast_nonneg _
      have hk1 : (k : Int) < (a.length : Int) := by omega
      generalize x.off = y0 at a0 b0
      generalize x.r.key = y1 at a1 b1
      generalize x.r.time = y2 at a2 b2
      generalize (bs x.r.text) = y3 at a3 b3
      go_wp2_with fail
      go_quiet (fail)
      go_wp2_with fail
      go_roundw
      case rel => exact ⟨k + 1, n + nq, by omega, by go_num, rfl⟩
      case measure => simp [intOf]; omega
    · obtain rfl : k = a.length := by omega
      go_wp2_with fail
      go_ret
      exact ⟨rfl, n, rfl⟩

end Go.Proofs.YtgjkjkeeblbjlaaGreatDoor

namespace Go.Proofs.YtgjkjkeeblbjlaaGreatDoor
open Go.RowKit

/-- All records are told. -/
def EveryPost8 (w : World) (l : List PGot) (e : Ending) (w' : World) : Prop :=
  ∃ v, e = .returned (.tuple #[v, .bool true]) ∧ w'.ownsRow w.heap.size 38 4 v l.length (gotCells l) ∧ Below w.heap.size w w'

def EveryRel8 (w : World) (s : PPart) (c : Bool) (vs : List Ent) (out at' i : Value) (wr : World) : Prop :=
  ∃ (k j : Nat) (v1 : Value), k ≤ vs.length ∧ j ≤ k ∧ i = .int .i64 j ∧ v1 = out ∧ at' = .int .i64 (endOf 0 (vs.take k)) ∧ wr.ownsRow w.heap.size 38 4 v1 ((vs.take k).flatMap (s.told c)).length (gotCells ((vs.take k).flatMap (s.told c))) ∧ Below w.heap.size w wr

set_option maxHeartbeats 4000000 in
theorem every08_any {w : World} {p l d : Nat} {S SL SD : Nat → Prop} {s : PPart} {A : ALog} {D : PDisk} {N : Int} (most : Int) (c : Bool) (h : Trio (paThing p l) w l d S SL SD s A.toP D) (hg : NGood paNotes N s A D) (hm : 1 ≤ most ∧ most ≤ 32) (hlen : A.all.length ≤ 300) :
    Calls Tryz.prog 12 #[.pointer (some ⟨p, 0, none⟩), .int .i64 most, .bool c] w (EveryPost8 w (s.toldAll c A)) := by
  obtain ⟨i1, hi1, hy0, hy1, hy2⟩ := info_parts Tryz.infoGot
  obtain ⟨vs, hvs⟩ : ∃ vs, s.vis c A = vs := ⟨_, rfl⟩
  have hf := fun k hk => pfetch_at hg hm c k hk
  have hmo := fun k => vis_mono hg c k
  have hvl := vis_len hg c
  have htold : s.toldAll c A = vs.flatMap (s.told c) := by rw [← hvs]; rfl
  rw [htold]
  rw [hvs] at hf hmo hvl
  have hvl2 : vs.length ≤ 300 := by omega
  have HF := hid hf
  have HMO := hid hmo
  have HT := hid h
  have HG := hid hg
  have hm1 := hm.1
  clear h hg hf hmo hvs htold hlen hvl hm
  go_enter Tryz.func12, Tryz.ntmps12
  go_wp2_with fail
  go_loopw [8, 9, 10] (fun out at' i wr => EveryRel8 w s c vs out at' i wr) (fun _ _ i _ => 500 - (intOf i).toNat)
  case atStart => exact ⟨0, 0, _, Nat.zero_le _, Nat.le_refl _, rfl, rfl, rfl, World.ownsRow_nil _ _ _ _, Below.refl _ _⟩
  case round =>
    obtain ⟨k, j, v1, hk, hj, rfl, rfl, rfl, hrow, hb⟩ := hrel
    have HROW := hid hrow
    have HB := hid hb
    have hsz := hb.size
    have HTT := hid (HT.out.below hb)
    have hfk := HF.out k hk
    have hmk := HMO.out k
    obtain ⟨k', hk'⟩ : ∃ k', k' = min (k + most.toNat) vs.length := ⟨_, rfl⟩
    have htk : vs.take (k + most.toNat) = vs.take k' := by
      by_cases h9 : k + most.toNat ≤ vs.length
      · rw [hk', Nat.min_eq_left h9]
      · rw [hk', Nat.min_eq_right (by omega), List.take_of_length_le (by omega), List.take_length]
    have hout : (vs.take k').flatMap (s.told c) = (vs.take k).flatMap (s.told c) ++ ((vs.drop k).take most.toNat).flatMap (s.told c) := by
      rw [← htk, List.take_add, List.flatMap_append]
    have hl0 := flatMap_len8 (told_len s c) (vs.take k)
    have hl1 := flatMap_len8 (told_len s c) (vs.take k')
    have hlt0 : (vs.take k).length = k := by rw [List.length_take]; omega
    have hlt1 : (vs.take k').length = k' := by rw [List.length_take]; omega
    rw [hlt0] at hl0
    rw [hlt1] at hl1
    rw [htk] at hfk
    have hle : endOf 0 (vs.take k) ≤ endOf 0 (vs.take k') ∧ (endOf 0 (vs.take k) = endOf 0 (vs.take k') ↔ k = vs.length) := by
      by_cases h9 : k = vs.length
      · have : k' = k := by omega
        rw [this]
        exact ⟨Int.le_refl _, fun _ => h9, fun _ => rfl⟩
      · have := hmk.2 k' (by omega) (by omega)
        exact ⟨by omega, fun h8 => by omega, fun h8 => absurd h8 h9⟩
    have HLE := hid hle.2
    have hle1 := hle.1
    have HOUT := hid hout
    have HFK := hid hfk
    have hk'1 : k' ≤ vs.length := by omega
    have hk'2 : k < vs.length → k < k' := by omega
    have HK2 := hid hk'2
    have hk'3 : k = vs.length → k' = vs.length := by omega
    have HK3 := hid hk'3
    clear hrow hb hfk hmk htk hout hlt0 hlt1 hle hk' hk'2 hk'3
    generalize endOf 0 (vs.take k) = at0 at hle1 HLE HFK ⊢
    generalize hn' : endOf 0 (vs.take k') = nx at hle1 HLE HFK
    have HN := hid hn'
    clear hn'
    generalize hacc : (vs.take k).flatMap (s.told c) = acc at hl0 HROW HOUT
    generalize hmore : ((vs.drop k).take most.toNat).flatMap (s.told c) = more at HOUT HFK
    have hln := congrArg List.length HOUT.out
    rw [List.length_append] at hln
    clear hacc hmore
    have hdl : decide ((j : Int) < 500) = true := decide_eq_true (by omega)
    go_wp2_with fail
    refine (paFetch_any at0 most c HTT.out HG.out).mono ?_
    rintro e w4 ⟨v, rfl, hrow4, hb4⟩
    rw [HFK.out] at hrow4
    rw [HFK.out]
    dsimp only at hrow4 ⊢
    have HROW4 := hid hrow4
    have HO := hid (own_bel HROW.out hb4)
    have HBB := hid (bel_next HB.out hb4)
    have hsz4 := hb4.size
    have hnl : decide (nx < at0) = false := decide_eq_false (by omega)
    obtain ⟨va, vc, rfl⟩ := row_slice hrow4
    clear hrow4 hb4
    go_upto_region 9 with fail
    go_cut [8] (fun o wx => ∃ v1, v1 = o ∧ wx.ownsRow w.heap.size 38 4 v1 (acc.length + more.length) (gotCells (acc ++ more)) ∧ Below w.heap.size w wx)
    case first =>
      rcases Joins.ownsRow_forms HROW4.out with ⟨hv, hz⟩ | ⟨g, cap, hv⟩
      · injection hv with hv1 hv2 hv3
        subst hv1 hv3
        have hmn : more = [] := List.length_eq_zero_iff.1 hz
        have HMN := hid hmn
        have HZ := hid hz
        clear hz hv2 hmn
        go_wp2_with (first
          | (at_builtin; refine wpList_append_own_none rfl _ _ 34 rfl w.heap.size 38 i1 4 Tryz.underlying34 hi1 v1 acc.length (gotCells acc) rfl HO.out (show Value.slice none more.length 0 = Value.slice none 0 0 by rw [HZ.out]) ?_))
        go_wp2_with fail
        go_meet
        exact ⟨_, rfl, by rw [HMN.out, List.append_nil]; exact HO.out, HBB.out⟩
      · injection hv with hv1 hv2 hv3
        subst hv1 hv3
        clear hv2
        have hg := HROW4.out.lt g rfl
        obtain ⟨hg1, hg2⟩ := hg
        have hsrc : ∀ j u, (gotCells more)[j]? = some u → w4.cell? ((⟨g, 0, none⟩ : Addr).add j) = some u := by
          intro j u hju
          have e : (⟨g, 0, none⟩ : Addr).add j = ⟨g, j, none⟩ := by unfold Addr.add; split <;> simp_all
          rw [e]
          have hjl := (List.getElem?_eq_some_iff.1 hju).1
          rw [gotCells_len] at hjl
          rw [HROW4.out.cellAt j hjl]
          exact hju
        have HSRC := hid hsrc
        clear hsrc
        go_wp2_with (first
          | (at_builtin; refine wpList_append_own _ rfl _ _ 34 rfl w.heap.size 38 i1 (.agg #[.int .i64 0, .int .i64 0, .int .i64 0, .string ⟨#[]⟩]) 4 40 Tryz.underlying34 hi1 hy0 hy1 hy2 rfl (by decide) _ _ _ rfl HO.out ⟨g, 0, none⟩ more.length vc (gotCells more) rfl (gotCells_len more) HSRC.out (got_one _) ?c3 ?c4 ?c5 ?_))
        case c3 => unfold maxLen; omega
        case c4 => omega
        case c5 => omega
        intro v' w5 hown1 hgrow _
        have hbw : Below w.heap.size w w5 := bel_append HBB.out HO.out (by omega) hgrow
        have HO1 := hid hown1
        have HBW := hid hbw
        clear hown1 hbw hgrow
        go_wp2_with fail
        go_meet
        exact ⟨_, rfl, by rw [gotCells_app]; exact HO1.out, HBW.out⟩
    case rest =>
      obtain ⟨v2, rfl, hrow5, hb5⟩ := hcut
      rw [← hln, ← HOUT.out] at hrow5
      have HR5 := hid hrow5
      have HB5 := hid hb5
      clear hrow5 hb5 HO HBB HROW4 HROW HB HTT
      by_cases hend : k = vs.length
      · have hq := HLE.out.2 hend
        have hq1 : decide (nx = at0) = true := decide_eq_true hq.symm
        have hq2 : (nx == at0) = true := by simpa using hq.symm
        have hkk : k' = vs.length := HK3.out hend
        clear hq
        rw [hkk, List.take_length] at HR5
        go_wp2_with fail
        go_ret2
        exact ⟨_, rfl, HR5.out, HB5.out⟩
      · have hq : ¬ at0 = nx := fun h9 => hend (HLE.out.1 h9)
        have hq1 : decide (nx = at0) = false := decide_eq_false (fun h9 => hq h9.symm)
        have hq2 : (nx == at0) = false := by simpa using fun h9 : nx = at0 => hq h9.symm
        have hkk := HK2.out (by omega)
        clear hq
        go_wp2_with fail
        go_roundw
        case rel => exact ⟨k', j + 1, _, hk'1, by omega, by go_num, rfl, by rw [HN.out], HR5.out, HB5.out⟩
        case measure => simp [intOf]; omega

theorem next_small {N : Int} {s : PPart} {A : ALog} {D : PDisk} (h : NGood paNotes N s A D) {k : Nat} (hl : A.all.length ≤ k) : 0 ≤ A.next ∧ A.next ≤ 64 * k := by
  obtain ⟨hc, he⟩ := h.chain
  have h1 := chain_bound hc
  rw [he] at h1
  have h0 := h.next0
  omega
end Go.Proofs.YtgjkjkeeblbjlaaGreatDoor
