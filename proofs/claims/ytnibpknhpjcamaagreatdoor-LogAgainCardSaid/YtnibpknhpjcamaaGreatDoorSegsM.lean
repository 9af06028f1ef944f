/-
  LogSegments: the walk. No conditions but deeds that read.
-/
import Derived.Test.YtnibpknhpjcamaaGreatDoorGNM
import Derived.Test.YtnibpknhpjcamaaGreatDoorFileM
set_option maxRecDepth 100000
namespace Go.Proofs.YtnibpknhpjcamaaGreatDoor
open Go.RowKit

theorem rowBytes_lay {l : List Ent} (hok : ∀ e ∈ l, e.ok) : rowBytes (rowL (layText l)) = (layText l).length := by
  rw [rowL_lay hok]
  unfold rowBytes layText
  rw [List.map_map, List.length_flatMap]
  rfl

theorem row_ents {l : List Ent} (hok : ∀ e ∈ l, e.ok) : (rowL (layText l)).map (·.2) = l := by
  rw [rowL_lay hok, List.map_map]
  simp [Function.comp_def]

theorem descCells_at : ∀ (l : List PSeg) (i : Nat) (x : PSeg), l[i]? = some x → (descCells l)[i * 3]? = some (.int .i64 x.base) ∧ (descCells l)[i * 3 + 1]? = some (.int .i64 x.bytes) ∧ (descCells l)[i * 3 + 2]? = some (.int .i64 x.entries)
  | [], i, x, h => by simp at h
  | y :: l, 0, x, h => by
    simp only [List.getElem?_cons_zero, Option.some.injEq] at h
    subst h
    exact ⟨rfl, rfl, rfl⟩
  | y :: l, i + 1, x, h => by
    simp only [List.getElem?_cons_succ] at h
    obtain ⟨h1, h2, h3⟩ := descCells_at l i x h
    have e1 : (i + 1) * 3 = i * 3 + 3 := by omega
    rw [e1]
    exact ⟨h1, h2, h3⟩

/-- A segment of a log that nothing has befallen. -/
structure SegIs (A : ALog) (D : PDisk) (k : Nat) (s : ASeg) : Prop where
  base : s.base = sEnd A.first (A.segs.take k)
  ok : ∀ e ∈ s.ents, e.ok
  pos : 1 ≤ s.ents.length
  small : 0 ≤ s.base ∧ s.next ≤ 1099511627776
  full : k + 1 < A.segs.length → 1024 ≤ s.size
  read : D.read (segName A.name s.base) = (layText s.ents, 0)
  next : s.next = sEnd A.first (A.segs.take (k + 1))
  cnt : (A.segs.take (k + 1)).flatMap ASeg.ents = (A.segs.take k).flatMap ASeg.ents ++ s.ents
  len : (layText s.ents).length ≤ 1048576
  all : s.ents.length ≤ A.all.length
  tot : ((A.segs.take (k + 1)).flatMap ASeg.ents).length ≤ A.all.length

theorem MadeIs.count {r : PLog × PDisk × List Ent} {A : ALog} {N : Int} (h : MadeIs r A N) : A.segs.length ≤ 50 := by
  have h1 := h.bd.count
  have h2 : A.toP.segs.length = A.segs.length := by show (A.segs.map ASeg.seg).length = _; rw [List.length_map]
  omega

theorem MadeIs.seg {r : PLog × PDisk × List Ent} {A : ALog} {N : Int} (h : MadeIs r A N) {k : Nat} {s : ASeg} (hs : A.segs[k]? = some s) : SegIs A r.2.1 k s := by
  have hm := List.mem_of_getElem? hs
  have hlt := (List.getElem?_eq_some_iff.1 hs).1
  have hsp : A.segs = A.segs.take k ++ s :: A.segs.drop (k + 1) := by
    have h1 := (List.take_append_drop k A.segs).symm
    rw [List.drop_eq_getElem_cons hlt] at h1
    rw [(List.getElem?_eq_some_iff.1 hs).2] at h1
    exact h1
  have ht : A.segs.take (k + 1) = A.segs.take k ++ [s] := by rw [List.take_add_one, hs]; rfl
  have hi := h.good.inv
  have hc := hi.chain
  rw [hsp] at hc
  obtain ⟨_, h4, h5, _⟩ := SChain.app.1 hc
  have hb := hi.base hm
  have hr := hi.read h.disk h.good.off hm
  have hne := h.good.ents s hm
  refine ⟨h4, (hi.chains hm).ok, ?_, ⟨hb.1, by have := hi.top; omega⟩, fun hlt2 => ?_, hr, by rw [ht, sEnd_snoc], by rw [ht, List.flatMap_append]; simp, ?_, ?_, ?_⟩
  · cases h9 : s.ents with
    | nil => exact absurd h9 hne
    | cons y l => simp
  · refine hi.full s ?_
    rw [hsp, List.dropLast_append_of_ne_nil (by simp)]
    cases hd : A.segs.drop (k + 1) with
    | nil =>
      have := congrArg List.length hd
      simp at this; omega
    | cons y l => simp
  · exact hi.seg_len h.disk hm
  · have h9 : A.all = (A.segs.take k).flatMap ASeg.ents ++ (s.ents ++ (A.segs.drop (k + 1)).flatMap ASeg.ents) := by
      unfold ALog.all
      rw [← List.flatMap_cons, ← List.flatMap_append, ← hsp]
    rw [h9, List.length_append, List.length_append]; omega
  · have h9 : A.all = (A.segs.take (k + 1)).flatMap ASeg.ents ++ (A.segs.drop (k + 1)).flatMap ASeg.ents := by
      unfold ALog.all
      rw [← List.flatMap_append, List.take_append_drop]
    rw [h9, List.length_append]; omega

theorem MadeIs.files {r : PLog × PDisk × List Ent} {A : ALog} {N : Int} (h : MadeIs r A N) : r.2.1.files.length = A.segs.length := by
  have h1 := h.good.inv.files
  have h2 : filesOf A.name r.2.1 = r.2.1.files := by
    unfold filesOf
    rw [List.filter_eq_self]
    exact h.good.own
  rw [h2] at h1
  have h3 := congrArg List.length h1
  simpa using h3

set_option maxHeartbeats 4000000 in
theorem segs_any {w : World} {v : Value} {l : List PDeed} (size : Int) (h : InDeeds w v l) : Calls Tryz.prog 4 #[.int .i64 size, v] w (AwakePost w) := by
  obtain ⟨A, hA⟩ := madeL_is size l
  have HA := hid hA
  have HI := hid h
  clear hA h
  go_enter Tryz.func4, Tryz.ntmps4
  go_wp2_with fail
  refine (made_any size HI.out).mono ?_
  rintro e w1 ⟨ll, d, av, S, SD, rfl, hlog, hd, hrow, _, _, hb⟩
  generalize madeL size l = r at HA hlog hd hrow
  obtain ⟨r1, D, acc⟩ := r
  have hseg := fun k s hs => HA.out.seg (k := k) (s := s) hs
  have hsl := HA.out.count
  have hfl := HA.out.files
  obtain ⟨e1, hg, hnm, e2, hdw, hwf, hlen, _⟩ := HA.out
  dsimp only at e1 e2 hg hdw hlog hd hrow hseg hfl
  subst e1 e2
  clear HA
  have HSEG := hid hseg
  have HFL := hid hfl
  clear hfl
  clear HI hseg
  unfold ptr
  have HL := hid hlog
  have HD := hid hd
  have HB := hid hb
  have HG := hid hg
  have HNM := hid hnm
  obtain ⟨aa, ac, rfl⟩ := row_slice hrow
  clear hlog hd hrow hb hg hnm
  go_wp2_with fail
  refine (segments_any HL.out (by show (A.segs.map ASeg.seg).length ≤ _; rw [List.length_map]; omega)).mono ?_
  rintro e w2 ⟨v2, rfl, hrow2, hb2⟩
  have hrow2 : w2.ownsRow w1.heap.size 42 3 v2 A.segs.length (descCells (A.segs.map ASeg.seg)) := by
    have h9 : A.toP.segs.length = A.segs.length := by show (A.segs.map ASeg.seg).length = _; rw [List.length_map]
    rw [h9] at hrow2; exact hrow2
  have HB2 := hid (bel_next HB.out hb2)
  have HL2 := hid (HL.out.below hb2)
  have HD2 := hid (HD.out.below hb2)
  obtain ⟨ra, rc, rfl, hcell⟩ : ∃ ad cap, v2 = .slice ad A.segs.length cap ∧ ∀ j u, (descCells (A.segs.map ASeg.seg))[j]? = some u → ∃ g, ad = some ⟨g, 0, none⟩ ∧ w2.cell? ⟨g, j, none⟩ = some u := by
    obtain ⟨h1, ad, cap, h2, h3⟩ := Reads.of_own hrow2
    exact ⟨ad, cap, h2, h3⟩
  have HCELL := hid hcell
  clear hrow2 hb2 hcell HL HD HB
  have h0 : A.first = 0 := HG.out.first
  have H0 := hid h0
  clear h0
  go_wp2_with fail
  go_loopw [10, 11, 12] (fun nv cv iv wr => ∃ k : Nat, k ≤ A.segs.length ∧ iv = .int .i64 k ∧ nv = .int .i64 (sEnd A.first (A.segs.take k)) ∧ cv = .int .i64 ((A.segs.take k).flatMap ASeg.ents).length ∧ Below w2.heap.size w2 wr) (fun _ _ iv _ => A.segs.length - (intOf iv).toNat)
  case atStart => exact ⟨0, by omega, rfl, by rw [H0.out]; rfl, rfl, Below.refl _ _⟩
  case round =>
    obtain ⟨k, hk, rfl, rfl, rfl, hb⟩ := hrel
    have HBR := hid hb
    have hszr := hb.size
    clear hb
    by_cases hlt : k < A.segs.length
    · obtain ⟨s, hs⟩ : ∃ s, A.segs[k]? = some s := ⟨_, List.getElem?_eq_getElem hlt⟩
      obtain ⟨q1, q2, q3, q4, q5, q6, q7, q8, q9, q10, q11⟩ := HSEG.out k s hs
      rw [q8, List.length_append] at q11
      obtain ⟨e0, e1, e2⟩ := descCells_at (A.segs.map ASeg.seg) k s.seg (by rw [List.getElem?_map, hs]; rfl)
      rw [seg_base] at e0
      rw [seg_bytes] at e1
      rw [seg_entries] at e2
      obtain ⟨g, rfl, d0⟩ := HCELL.out _ _ e0
      have d1 : w2.cell? ⟨g, k * 3 + 1, none⟩ = some (.int .i64 s.size) := by
        obtain ⟨g2, hg, h⟩ := HCELL.out _ _ e1
        injection hg with hg; injection hg with hg; rw [hg]; exact h
      have d2 : w2.cell? ⟨g, k * 3 + 2, none⟩ = some (.int .i64 s.ents.length) := by
        obtain ⟨g2, hg, h⟩ := HCELL.out _ _ e2
        injection hg with hg; injection hg with hg; rw [hg]; exact h
      have hgl : g < w2.heap.size := World.block_lt_of_cell? w2 _ d0
      have f0 := (HBR.out.cell (p := ⟨g, k * 3, none⟩) hgl).trans d0
      have f1 := (HBR.out.cell (p := ⟨g, k * 3 + 1, none⟩) hgl).trans d1
      have f2 := (HBR.out.cell (p := ⟨g, k * 3 + 2, none⟩) hgl).trans d2
      have HSI := hid (HSEG.out k s hs)
      have HS := hid hs
      have hsz : s.size = (layText s.ents).length := rfl
      generalize hcl : ((A.segs.take k).flatMap ASeg.ents).length = cnt
      have HCL := hid hcl
      rw [← q1]
      clear e0 e1 e2 d0 d1 d2 hs q1 q2 q6 q7 q8
      have k0 : (0 : Int) ≤ (k : Int) := Int.natCast_nonneg _
      have k1 : (k : Int) < (A.segs.length : Int) := by omega
      have hb0 := q4.1
      rw [hcl] at q11
      generalize hen : s.ents.length = en at f2 q3 q10 q11
      generalize hby : s.size = by' at f1 q5 hsz
      have HEN := hid hen
      have HBY := hid hsz
      clear hen hby hsz q4 hrow2 hcl
      have hbn : s.base ≤ 1099511627776 := by have h1 := HSI.out.small; have h2 : s.base ≤ s.next := by have h3 := HG.out.inv.base (List.mem_of_getElem? HS.out); exact h3.2.1
                                              omega
      have hd4 : decide ((en : Int) < 1) = false := by simp; omega
      rcases (show (decide ((k : Int) + 1 < (A.segs.length : Int)) = true ∧ decide ((by' : Int) < 1024) = false) ∨ decide ((k : Int) + 1 < (A.segs.length : Int)) = false by
        by_cases hl1 : k + 1 < A.segs.length
        · exact .inl ⟨by simp; omega, by have := q5 hl1; simp; omega⟩
        · exact .inr (by simp; omega)) with ⟨hd2, hd3⟩ | hd2
      all_goals
        clear q5
        go_wp2_with fail
        refine (refFile_any [108, 111, 103] s.base _ (by simp) hb0 (by omega)).mono ?_
        rintro e w3 ⟨rfl, hb3⟩
        have HB3 := hid (bel_next HBR.out hb3)
        have hsz3 := hb3.size
        have HD3 := hid ((HD2.out.below HBR.out).below hb3)
        have f1 := (hb3.cell (p := ⟨g, k * 3 + 1, none⟩) (by show g < _; omega)).trans f1
        have f2 := (hb3.cell (p := ⟨g, k * 3 + 2, none⟩) (by show g < _; omega)).trans f2
        clear f0 hb3
        go_wp2_with fail
        refine (read_any d SD D _ _ _ HD3.out hdw (by unfold segName; simp [digs_len])).mono ?_
        rintro e w4 ⟨rfl, hb4⟩
        have hrd := HSI.out.read
        rw [HNM.out] at hrd
        rw [hrd]
        clear hrd
        dsimp only
        have HB4 := hid (bel_next HB3.out hb4)
        have hsz4 := hb4.size
        have f1 := (hb4.cell (p := ⟨g, k * 3 + 1, none⟩) (by show g < _; omega)).trans f1
        have f2 := (hb4.cell (p := ⟨g, k * 3 + 2, none⟩) (by show g < _; omega)).trans f2
        clear hb4 HD3
        have hbsz : (bs (layText s.ents)).size = by' := by rw [bs_size]; exact HBY.out.symm
        go_wp2_with fail
        refine (row_any (bs (layText s.ents)) _ (by rw [bs_size]; omega)).mono ?_
        rintro e w5 ⟨v5, rfl, hrow5, hb5⟩
        rw [tl_bs, rowBytes_lay HSI.out.ok, ← HBY.out]
        have hlr : (rowL (layText s.ents)).length = en := by rw [rowL_lay HSI.out.ok, List.length_map, HEN.out]
        rw [tl_bs, row_ents HSI.out.ok, hlr] at hrow5
        clear hlr
        have HB5 := hid (bel_next HB4.out hb5)
        have hsz5 := hb5.size
        have f1 := (hb5.cell (p := ⟨g, k * 3 + 1, none⟩) (by show g < _; omega)).trans f1
        have f2 := (hb5.cell (p := ⟨g, k * 3 + 2, none⟩) (by show g < _; omega)).trans f2
        obtain ⟨g5, cap5, rfl⟩ := own_slice hrow5 (by omega)
        obtain ⟨y, hy⟩ : ∃ y, s.ents[en - 1]? = some y := ⟨_, List.getElem?_eq_getElem (by rw [HEN.out]; omega)⟩
        obtain ⟨p0, p1, _⟩ := entCells_at _ _ y hy
        rw [← hrow5.cellAt _ (by omega)] at p0 p1
        have hyok := HSI.out.ok y (List.mem_of_getElem? hy)
        have hyn : y.base + y.n = s.next := by
          show _ = endOf s.base s.ents
          unfold endOf
          rw [List.getLast?_eq_getElem?, HEN.out, hy]
        obtain ⟨o1, o2, o3, o4, _⟩ := hyok
        have HYN := hid hyn
        have HROW5 := hid hrow5
        clear hrow5 hb5 hy hyn
        go_wp2_with fail
        have k1' : (0 : Int) ≤ (en : Int) - 1 := by omega
        have k2 : (en : Int) - 1 < (en : Int) := by omega
        have k3 : ((en : Int) - 1).toNat = en - 1 := by omega
        have k4 : IntKind.i64.wrap ((en : Int) - 1) = (en : Int) - 1 := IntWalk.i64_in _ (by omega)
        have k5 : IntKind.i64.wrap (y.base + y.n) = y.base + y.n := IntWalk.i64_in _ (by omega)
        go_quiet (fail)
        clear k1' k2 k3 k4 k5
        go_wp2_with fail
        go_roundw
        case rel =>
          refine ⟨k + 1, by omega, by go_num, by rw [← HSI.out.next, HYN.out], ?_, HB5.out.trans (bel_drewN _ _ _)⟩
          have h9 : ((A.segs.take (k + 1)).flatMap ASeg.ents).length = cnt + en := by rw [HSI.out.cnt, List.length_append, HCL.out, HEN.out]
          rw [h9]; go_num
        case measure => simp [intOf]; omega
    · obtain rfl : k = A.segs.length := by omega
      have hn : sEnd A.first (A.segs.take A.segs.length) = A.toP.next := by rw [List.take_length, ← A.next_eq]; rfl
      have hc : ((A.segs.take A.segs.length).flatMap ASeg.ents).length = A.all.length := by rw [List.take_length]; rfl
      rw [hn, hc]
      have HL3 := hid (HL2.out.below HBR.out)
      have HD3 := hid (HD2.out.below HBR.out)
      have HB3 := hid (bel_next HB2.out HBR.out)
      clear hn hc hrow2
      go_wp2_with fail
      refine (next_any HL3.out).mono ?_
      rintro e w' ⟨rfl, rfl⟩
      go_wp2_with fail
      refine (files_any d SD D _ _ HD3.out hdw).mono ?_
      rintro e w4 ⟨v4, rfl, hrow4, hb4⟩
      rw [HFL.out] at hrow4
      obtain ⟨fa, fc, rfl⟩ := row_slice hrow4
      have HB4 := hid (bel_next HB3.out hb4)
      clear hb4 hrow4
      go_wp2_with fail
      refine (awake_any _).mono ?_
      rintro e w5 ⟨rfl, hb5⟩
      have HB5 := hid (bel_next HB4.out hb5)
      clear hb5
      go_wp2_with fail
      go_ret
      exact ⟨rfl, HB5.out⟩
end Go.Proofs.YtnibpknhpjcamaaGreatDoor
