/-
  LogMarks: the walk. No conditions but deeds that read.
-/
import Derived.Test.YtnibpknhpjcamaaGreatDoorSegsM
import Derived.Test.YtnibpknhpjcamaaGreatDoorGMM
set_option maxRecDepth 100000
namespace Go.Proofs.YtnibpknhpjcamaaGreatDoor
open Go.RowKit

/-- What a mark's place holds. -/
structure MarkIs (D : PDisk) (x : PMark) (t : List UInt8) (np : Nat) (y : Ent) (r : List UInt8) : Prop where
  read : D.read (segName [108, 111, 103] x.seg) = (t, 0)
  pos : x.pos = np
  le : np ≤ t.length
  len : t.length ≤ 1048576
  take : takeEnt (t.drop np) = some (y, r)
  off : x.off = y.base
  ok : y.ok
  seg : 0 ≤ x.seg ∧ x.seg ≤ 1099511627776

theorem MadeIs.mark {r : PLog × PDisk × List Ent} {A : ALog} {N : Int} (h : MadeIs r A N) {x : PMark} (hx : MarkOf A.segs x) : ∃ t np y q, MarkIs r.2.1 x t np y q := by
  obtain ⟨s, hs, h1, p, y, q, h2, h3, h4⟩ := hx
  have hi := h.good.inv
  have hr := hi.read h.disk h.good.off hs
  have hb := hi.base hs
  have ht := hi.top
  have hok := (hi.chains hs).ok
  rw [h.name] at hr
  refine ⟨layText s.ents, (layText p).length, y, layText q, by rw [h1]; exact hr, h3, ?_, hi.seg_len h.disk hs, ?_, h4, hok y (by rw [h2]; simp), by rw [h1]; omega⟩
  · rw [h2, layText_app, List.length_append]; omega
  · rw [h2, layText_app, List.drop_left, layText_cons]
    exact takeEnt_lay (hok y (by rw [h2]; simp)) _

theorem marks_len {A : ALog} (h : A.toP.Bd 50) : A.marks.length ≤ 20000 := by
  have h1 := h.count
  have h2 := flat_len A.toP.segs 400 (fun x hx => by have := (h.marks x hx).1; omega)
  rw [A.marks_eq] at h2
  have h3 : A.toP.segs.length * 400 ≤ 50 * 400 := Nat.mul_le_mul_right _ h1
  omega

theorem tl_cut (t : List UInt8) (n : Nat) : tl ((bs t).extract n t.length) = t.drop n := by
  rw [tl_extract, tl_bs, List.take_of_length_le (by simp)]

set_option maxHeartbeats 4000000 in
theorem lmarks_any {w : World} {v : Value} {l : List PDeed} (size : Int) (h : InDeeds w v l) : Calls Tryz.prog 5 #[.int .i64 size, v] w (AwakePost w) := by
  obtain ⟨A, hA⟩ := madeL_is size l
  have HA := hid hA
  have HI := hid h
  clear hA h
  go_enter Tryz.func5, Tryz.ntmps5
  go_wp2_with fail
  refine (made_any size HI.out).mono ?_
  rintro e w1 ⟨ll, d, av, S, SD, rfl, hlog, hd, hrow, _, _, hb⟩
  generalize madeL size l = r at HA hlog hd hrow
  obtain ⟨r1, D, acc⟩ := r
  have hmk := fun x hx => HA.out.mark (x := x) hx
  have hsl := HA.out.count
  obtain ⟨e1, hg, hnm, e2, hdw, hwf, hlen, hbd⟩ := HA.out
  dsimp only at e1 e2 hg hdw hlog hd hrow hmk
  subst e1 e2
  have hml := marks_len hbd
  clear HA HI hbd
  unfold ptr
  have HMK := hid hmk
  have HL := hid hlog
  have HD := hid hd
  have HB := hid hb
  have HG := hid hg
  obtain ⟨aa, ac, rfl⟩ := row_slice hrow
  clear hlog hd hrow hb hg hnm hmk
  go_wp2_with fail
  refine (marks_any HL.out hwf).mono ?_
  rintro e w2 ⟨v2, rfl, hrow2, hb2⟩
  rw [A.marks_eq] at hrow2
  obtain ⟨hea, hcnt⟩ := HG.out.marks
  have HB2 := hid (bel_next HB.out hb2)
  have HL2 := hid (HL.out.below hb2)
  have HD2 := hid (HD.out.below hb2)
  have HEA := hid hea
  have HCNT := hid hcnt
  clear hea hcnt
  generalize A.marks = M at hml hrow2 HEA HCNT
  obtain ⟨ra, rc, rfl, hcell⟩ : ∃ ad cap, v2 = .slice ad M.length cap ∧ ∀ j u, (markCells M)[j]? = some u → ∃ g, ad = some ⟨g, 0, none⟩ ∧ w2.cell? ⟨g, j, none⟩ = some u := by
    obtain ⟨h1, ad, cap, h2, h3⟩ := Reads.of_own hrow2
    exact ⟨ad, cap, h2, h3⟩
  have HCELL := hid hcell
  clear hrow2 hb2 hcell HL HD HB
  go_wp2_with fail
  go_loopw [10] (fun iv wr => ∃ k : Nat, k ≤ M.length ∧ iv = .int .i64 k ∧ Below w2.heap.size w2 wr) (fun iv _ => M.length - (intOf iv).toNat)
  case atStart => exact ⟨0, by omega, rfl, Below.refl _ _⟩
  case round =>
    obtain ⟨k, hk, rfl, hb⟩ := hrel
    have HBR := hid hb
    have hszr := hb.size
    clear hb
    by_cases hlt : k < M.length
    · obtain ⟨x, hx⟩ : ∃ x, M[k]? = some x := ⟨_, List.getElem?_eq_getElem hlt⟩
      obtain ⟨hof, hnx⟩ := HEA.out.at hx
      obtain ⟨t, np, y, q, hmi⟩ := HMK.out x hof
      obtain ⟨e0, e1, e2⟩ := markCells_at M k x hx
      rw [hmi.pos] at e2
      obtain ⟨g, rfl, d0⟩ := HCELL.out _ _ e0
      have d1 : w2.cell? ⟨g, k * 3 + 1, none⟩ = some (.int .i64 x.seg) := by
        obtain ⟨g2, hg, h⟩ := HCELL.out _ _ e1
        injection hg with hg; injection hg with hg; rw [hg]; exact h
      have d2 : w2.cell? ⟨g, k * 3 + 2, none⟩ = some (.int .i64 np) := by
        obtain ⟨g2, hg, h⟩ := HCELL.out _ _ e2
        injection hg with hg; injection hg with hg; rw [hg]; exact h
      have hgl : g < w2.heap.size := World.block_lt_of_cell? w2 _ d0
      have f0 := (HBR.out.cell (p := ⟨g, k * 3, none⟩) hgl).trans d0
      have f1 := (HBR.out.cell (p := ⟨g, k * 3 + 1, none⟩) hgl).trans d1
      have f2 := (HBR.out.cell (p := ⟨g, k * 3 + 2, none⟩) hgl).trans d2
      have HMI := hid hmi
      have HNX := hid hnx
      have k0 : (0 : Int) ≤ (k : Int) := Int.natCast_nonneg _
      have k1 : (k : Int) < (M.length : Int) := by omega
      obtain ⟨sg0, sg1⟩ := hmi.seg
      have hle := hmi.le
      have htl := hmi.len
      have D1 := hid d1
      have D2 := hid d2
      clear e0 e1 e2 d0 d1 d2 hx hof hnx hmi
      go_wp2_with fail
      refine (refFile_any [108, 111, 103] x.seg _ (by simp) sg0 (by omega)).mono ?_
      rintro e w3 ⟨rfl, hb3⟩
      have hbx := (Blk.new wr #[.int .i64 x.off, .int .i64 x.seg, .int .i64 np] 54).below' hb3
      have HB3 := hid (bel_next (bel_alloc HBR.out _) hb3)
      have hsz3 := hb3.size
      simp only [World.size_alloc] at hsz3
      have HD3 := hid ((HD2.out.below (bel_alloc HBR.out _)).below hb3)
      clear hb3
      generalize hxb : wr.heap.size = xb at hbx ⊢
      go_wp2_with fail
      refine (read_any d SD D _ _ _ HD3.out hdw (by unfold segName; simp [digs_len])).mono ?_
      rintro e w4 ⟨rfl, hb4⟩
      rw [HMI.out.read]
      dsimp only
      have hbx4 := hbx.below' hb4
      have HB4 := hid (bel_next HB3.out hb4)
      have hsz4 := hb4.size
      obtain ⟨b0, b1, b2, fz0, fz1, fz2⟩ := hbx4.c3
      have hxl := hbx4.lt
      clear hb4 HD3 hbx f0 f1 f2
      have hd1 : decide ((np : Int) < 0) = false := by simp
      have hbsz : (bs t).size = t.length := bs_size t
      have hd2 : decide ((t.length : Int) < (np : Int)) = false := by simp; omega
      have hd3 : decide (t.length < np) = false := by simp; omega
      go_wp2_with fail
      refine (takeEnt_any _ _ (by rw [← hbsz, extract_drop, bs_size, tl_bs]; simp; omega)).mono ?_
      rintro e w5 ⟨rfl, hb5⟩
      rw [tl_cut, HMI.out.take]
      unfold takeEntV
      dsimp only
      have hbx5 := hbx4.below' hb5
      have HB5 := hid (bel_next HB4.out hb5)
      have hsz5 := hb5.size
      obtain ⟨o1, o2, o3, o4, _⟩ := HMI.out.ok
      have hoff := HMI.out.off
      rw [hoff] at hbx5
      clear hb5 b0 b1 b2 fz0 fz1 fz2 hbx4 hoff
      obtain ⟨b0, b1, b2, fz0, fz1, fz2⟩ := hbx5.c3
      have hne : (y.base != y.base) = false := by simp
      have hx5 := hbx5.lt
      have hg5 : g < w5.heap.size := by have := HB3.out.size; omega
      go_upto_region 15 with fail
      have hbx6 := hbx5.alloc (.cells #[.int .i64 y.base, .int .i64 y.n, .string (bs y.text)] 37)
      have HB6 := hid (bel_alloc HB5.out (.cells #[.int .i64 y.base, .int .i64 y.n, .string (bs y.text)] 37))
      generalize w5.alloc (.cells #[.int .i64 y.base, .int .i64 y.n, .string (bs y.text)] 37) = w6 at hbx6 HB6 ⊢
      clear b0 b1 b2 fz0 fz1 fz2 hbx5 hx5 hg5
      obtain ⟨b0, b1, b2, fz0, fz1, fz2⟩ := hbx6.c3
      have hx6 := hbx6.lt
      have HREL : Hid (∀ n, ∃ k_1, k_1 ≤ M.length ∧ Value.int .i64 ((k : Int) + 1) = .int .i64 (k_1 : Int) ∧ Below w2.heap.size w2 (w6.drewN n)) := hid (fun n => ⟨k + 1, by omega, by go_num, HB6.out.trans (bel_drewN _ _ _)⟩)
      clear hbx6 hne hd1 hd2 hd3
      by_cases hk0 : k = 0
      · have hnx := HNX.out
        rw [if_pos hk0] at hnx
        obtain ⟨z1, z2⟩ := hnx
        have z3 := HMI.out.pos
        have z4 := HMI.out.off
        have h1 : ((k : Int) == 0) = true := by simp; omega
        have h2 : ((np : Int) != 0) = false := by simp; omega
        have h3 : (y.base != x.seg) = false := by simp; omega
        clear z1 z2 z3 z4 hk0
        go_quiet (fail)
        go_wp2_with fail
        go_roundw
        case rel => exact HREL.out _
        case measure => simp [intOf]; omega
      · obtain ⟨m, hm⟩ : ∃ m, M[k - 1]? = some m := ⟨_, List.getElem?_eq_getElem (by omega)⟩
        have hnx := HNX.out
        rw [if_neg hk0, hm] at hnx
        obtain ⟨t', np', y', q', hmi'⟩ := HMK.out m (HEA.out.at hm).1
        obtain ⟨e0, e1, e2⟩ := markCells_at M (k - 1) m hm
        rw [hmi'.pos] at e2
        have p1 : w2.cell? ⟨g, (k - 1) * 3 + 1, none⟩ = some (.int .i64 m.seg) := by
          obtain ⟨g2, hg, h⟩ := HCELL.out _ _ e1
          injection hg with hg; injection hg with hg; rw [hg]; exact h
        have p2 : w2.cell? ⟨g, (k - 1) * 3 + 2, none⟩ = some (.int .i64 np') := by
          obtain ⟨g2, hg, h⟩ := HCELL.out _ _ e2
          injection hg with hg; injection hg with hg; rw [hg]; exact h
        have p1 := (HB6.out.cell (p := ⟨g, (k - 1) * 3 + 1, none⟩) hgl).trans p1
        have p2 := (HB6.out.cell (p := ⟨g, (k - 1) * 3 + 2, none⟩) hgl).trans p2
        have hg6 : g < w6.heap.size := World.block_lt_of_cell? w6 _ p1
        have h1 : ((k : Int) == 0) = false := by simp; omega
        have j1 : (0 : Int) ≤ (k : Int) - 1 := by omega
        have j2 : (k : Int) - 1 < (M.length : Int) := by omega
        have j3 : ((k : Int) - 1).toNat = k - 1 := by omega
        have j4 : IntKind.i64.wrap ((k : Int) - 1) = (k : Int) - 1 := IntWalk.i64_in _ (by omega)
        have q1 := hmi'.le
        have q2 := hmi'.len
        have z3 := HMI.out.pos
        have z4 := HMI.out.off
        have z5 := hmi'.pos
        clear e0 e1 e2 hm
        unfold MarkNext at hnx
        dsimp only at hnx
        by_cases hsg : m.seg = x.seg
        · rw [if_pos hsg] at hnx
          have h2 : (m.seg != x.seg) = false := by simpa using hsg
          have j5 : IntKind.i64.wrap ((np : Int) - (np' : Int)) = (np : Int) - (np' : Int) := IntWalk.i64_in _ (by omega)
          have h3 : decide ((np : Int) - (np' : Int) < 256) = false := by simp; omega
          clear hnx z3 z4 z5 hsg hk0
          go_quiet (fail)
          go_wp2_with fail
          go_quiet (fail)
          clear j1 j2 j3 j4 j5
          go_wp2_with fail
          go_roundw
          case rel => exact HREL.out _
          case measure => simp [intOf]; omega
        · rw [if_neg hsg] at hnx
          obtain ⟨z1, z2⟩ := hnx
          have h2 : (m.seg != x.seg) = true := by simpa using hsg
          have h4 : ((np : Int) != 0) = false := by simp; omega
          have h3 : (y.base != x.seg) = false := by simp; omega
          clear z1 z2 z3 z4 z5 hsg hk0
          go_quiet (fail)
          clear j1 j2 j3 j4
          go_wp2_with fail
          go_roundw
          case rel => exact HREL.out _
          case measure => simp [intOf]; omega
    · obtain rfl : k = M.length := by omega
      obtain ⟨wo, rfl⟩ : ∃ wo : World, wr = wo := ⟨_, rfl⟩
      have HBO := hid HBR.out
      clear HBR hszr
      go_wp2_with fail
      go_loopw [17, 18] (fun cv iv wr => ∃ j : Nat, j ≤ M.length ∧ iv = .int .i64 j ∧ cv = .int .i64 ((M.take j).countP (fun x => x.pos == 0)) ∧ Below w2.heap.size w2 wr) (fun _ iv _ => M.length - (intOf iv).toNat)
      case atStart => exact ⟨0, by omega, rfl, rfl, HBO.out⟩
      case round =>
        obtain ⟨k, hk, rfl, rfl, hb⟩ := hrel
        have HBR := hid hb
        clear hb
        by_cases hlt : k < M.length
        · obtain ⟨x, hx⟩ : ∃ x, M[k]? = some x := ⟨_, List.getElem?_eq_getElem hlt⟩
          obtain ⟨_, _, e2⟩ := markCells_at M k x hx
          obtain ⟨g, rfl, d2⟩ := HCELL.out _ _ e2
          have hgl : g < w2.heap.size := World.block_lt_of_cell? w2 _ d2
          have f2 := (HBR.out.cell (p := ⟨g, k * 3 + 2, none⟩) hgl).trans d2
          have k0 : (0 : Int) ≤ (k : Int) := Int.natCast_nonneg _
          have k1 : (k : Int) < (M.length : Int) := by omega
          have htk : M.take (k + 1) = M.take k ++ [x] := by rw [List.take_add_one, hx]; rfl
          have hcl : (M.take k).countP (fun x => x.pos == 0) ≤ k := by
            have h1 := List.countP_le_length (p := fun (x : PMark) => x.pos == 0) (l := M.take k)
            rw [List.length_take] at h1; omega
          have HTK : Hid ((M.take (k + 1)).countP (fun x => x.pos == 0) = (M.take k).countP (fun x => x.pos == 0) + (if x.pos = 0 then 1 else 0)) := by
            refine hid ?_
            rw [htk, List.countP_append]
            by_cases h : x.pos = 0 <;> simp [h]
          clear htk hx e2 d2
          generalize (M.take k).countP (fun x => x.pos == 0) = cn at hcl HTK ⊢
          rcases (show (x.pos == 0) = true ∨ (x.pos == 0) = false by cases x.pos == 0 <;> simp) with hz | hz
          · have HZ := hid hz
            go_wp2_with fail
            go_roundw
            case rel =>
              refine ⟨k + 1, by omega, by go_num, ?_, HBR.out⟩
              rw [HTK.out, if_pos (by simpa using HZ.out)]; go_num
            case measure => simp [intOf]; omega
          · have HZ := hid hz
            go_wp2_with fail
            go_roundw
            case rel =>
              refine ⟨k + 1, by omega, by go_num, ?_, HBR.out⟩
              rw [HTK.out, if_neg (by simpa using HZ.out)]; go_num
            case measure => simp [intOf]; omega
        · obtain rfl : k = M.length := by omega
          rw [List.take_length, HCNT.out]
          have HL3 := hid (HL2.out.below HBR.out)
          have HB3 := hid (bel_next HB2.out HBR.out)
          go_wp2_with fail
          refine (segments_any HL3.out (by show (A.segs.map ASeg.seg).length ≤ _; rw [List.length_map]; omega)).mono ?_
          rintro e w4 ⟨v4, rfl, hrow4, hb4⟩
          have h9 : A.toP.segs.length = A.segs.length := by show (A.segs.map ASeg.seg).length = _; rw [List.length_map]
          rw [h9] at hrow4
          obtain ⟨fa, fc, rfl⟩ := row_slice hrow4
          have HB4 := hid (bel_next HB3.out hb4)
          clear hb4 hrow4 h9
          go_wp2_with fail
          refine (awake_any _).mono ?_
          rintro e w5 ⟨rfl, hb5⟩
          have HB5 := hid (bel_next HB4.out hb5)
          clear hb5
          go_wp2_with fail
          go_ret
          exact ⟨rfl, HB5.out⟩
end Go.Proofs.YtnibpknhpjcamaaGreatDoor
