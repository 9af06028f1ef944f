/-
  PartStable: the walk. No conditions but deeds that read.
-/
import Derived.Test.YtgjkjkeeblbjlaaGreatDoorJQM
import Derived.Test.YtgjkjkeeblbjlaaGreatDoorJMM
set_option maxRecDepth 100000
namespace Go.Proofs.YtgjkjkeeblbjlaaGreatDoor
open Go.RowKit

def StabRel (w : World) (p l d : Nat) (v : Value) (q : List PDCell) (was j : Value) (wr : World) : Prop :=
  ∃ (k : Nat) (s : PPart) (A : ALog) (D : PDisk) (S SL SD : Nat → Prop), k ≤ q.length ∧ j = .int .i64 k ∧ was = .int .i64 (s.stable A.toP) ∧ TrioIn (paThing p l) w wr l d S SL SD s A.toP D ∧ PaWell s A D ∧ wr.ownsRow w.heap.size 49 10 v q.length (pdsCells q)

theorem PaWell.put_st {s : PPart} {A : ALog} {D : PDisk} (h : PaWell s A D) (b : PBat) : ∃ A', (s.put A.toP D b).L = A'.toP ∧ PaWell (s.put A.toP D b).s A' (s.put A.toP D b).D ∧ s.stable A.toP ≤ (s.put A.toP D b).s.stable A'.toP := by
  have hi := paInv_of h.good
  rcases h.put b with ⟨A', D', e, _, _, _, _, hw, _, hnx⟩ | ⟨A', D', n, y, c, e, _, hw, _, hnx⟩
  · rw [e]
    refine ⟨A', rfl, hw, ?_⟩
    rw [stable_st, stable_st]
    show stN s A.next ≤ stN _ A'.next
    rw [hnx]
    exact hi.st_took
  · rw [e]
    refine ⟨A', rfl, hw, ?_⟩
    rw [stable_st, stable_st]
    show stN s A.next ≤ stN s A'.next
    rw [hnx]
    exact Int.le_refl _

theorem PaWell.mark_st {s : PPart} {A : ALog} {D : PDisk} (h : PaWell s A D) (pid ep : Int) (yes : Bool) : ∃ A', (s.mark A.toP D pid ep yes).L = A'.toP ∧ PaWell (s.mark A.toP D pid ep yes).s A' (s.mark A.toP D pid ep yes).D ∧ s.stable A.toP ≤ (s.mark A.toP D pid ep yes).s.stable A'.toP := by
  have hi := paInv_of h.good
  rcases h.mark pid ep yes with ⟨A', D', o, e, _, _, hw, _, hnx⟩ | ⟨A', D', c, e, hw, _, hnx⟩
  · rw [e]
    refine ⟨A', rfl, hw, ?_⟩
    rw [stable_st, stable_st]
    show stN s A.next ≤ stN _ A'.next
    rw [hnx]
    exact hi.st_took
  · rw [e]
    refine ⟨A', rfl, hw, ?_⟩
    rw [stable_st, stable_st]
    show stN s A.next ≤ stN s A'.next
    rw [hnx]
    exact Int.le_refl _

set_option maxHeartbeats 16000000 in
theorem partStable_any {w : World} {v : Value} {l : List PDeed} (h : InPDeeds w v l) : Calls Tryz.prog 4 #[v] w (AwakePost8 w) := by
  have HI := hid h
  clear h
  go_enter Tryz.func4, Tryz.ntmps4
  go_wp2_with fail
  refine (fresh08_any 1000 1000 w (by decide) paNew1000 dP_open1000).mono ?_
  rintro e w1 ⟨p, ll, d, S, SL, SD, rfl, hm⟩
  have HM := hid hm
  clear hm
  go_wp2_with fail
  refine (few08_any HM.out.bel HI.out).mono ?_
  rintro e w2 ⟨v1, rfl, hout, hb2⟩
  obtain ⟨q, hrow, hfq⟩ := fewQ_of hout
  have HM2 := hid (HM.out.below hb2)
  have HROW := hid (own_base hrow HM.out.bel.size)
  have hrd : ∀ x ∈ q, x.d.b.light = true := hfq.light
  have hq40 := hfq.len
  have hall : ∀ x ∈ q, InRecs w x.B x.d.b.l ∧ ∃ ka kn kc, x.K = .slice ka kn kc := fun x hx => by
    obtain ⟨g1, _, ⟨_, ka, kc, hK, _⟩⟩ := hfq.reads x hx
    exact ⟨g1, ka, _, kc, hK⟩
  have HLI := hid hrd
  have HALL := hid hall
  obtain ⟨va, vc, rfl⟩ := row_slice hrow
  clear hrow hall hb2 hout hfq hrd HI HM
  go_wp2_with fail
  go_loopw [5, 6] (fun was j wr => StabRel w p ll d (.slice va q.length vc) q was j wr) (fun _ j _ => q.length - (intOf j).toNat)
  case atStart => exact ⟨0, sP, aP, dP 1000, S, SL, SD, Nat.zero_le _, rfl, rfl, HM2.out, paWell_new, HROW.out⟩
  case round =>
    clear HROW HM2
    obtain ⟨k, s, A, D, S, SL, SD, hk, rfl, rfl, hm, hw, hrow⟩ := hrel
    have HM := hid hm
    have HW := hid hw
    have HROW := hid hrow
    clear hm hrow hw
    by_cases hlt : k < q.length
    · obtain ⟨x, hx⟩ : ∃ x, q[k]? = some x := ⟨_, List.getElem?_eq_getElem hlt⟩
      have hmx := List.mem_of_getElem? hx
      obtain ⟨hrec, ka, kn, kc, hK⟩ := HALL.out x hmx
      have hl70 := light_len (HLI.out x hmx)
      obtain ⟨xd, xB, xK⟩ := x
      obtain ⟨xk, xn, xe, xy, xb, keep⟩ := xd
      obtain ⟨bk, bp, be, bs', bl⟩ := xb
      simp only at hK hrec hl70
      subst hK
      obtain ⟨ba, bc, rfl, _, _⟩ := hrec.form
      obtain ⟨g, cap, hve, hgl, hcells⟩ := outPDeed HROW.out hx
      injection hve with e1 e2 e3
      subst e1 e3
      have d0 := hcells 0 _ rfl
      have d1 := hcells 1 _ rfl
      have d2 := hcells 2 _ rfl
      have d3 := hcells 3 _ rfl
      have d4 := hcells 4 _ rfl
      have d5 := hcells 5 _ rfl
      have d6 := hcells 6 _ rfl
      have d7 := hcells 7 _ rfl
      have d8 := hcells 8 _ rfl
      have d9 := hcells 9 _ rfl
      simp only [Nat.add_zero] at d0
      dsimp only at d0 d1 d2 d3 d4 d5 d6 d7 d8 d9
      have HREC := hid hrec
      have HLT := hid hl70
      have HT1 := hid (HM.out.below (bel_alloc (Below.refl wr.heap.size wr) (.cells #[.int .i64 xk, .int .i64 xn, .int .i64 xe, .bool xy, .int .i64 bk, .int .i64 bp, .int .i64 be, .int .i64 bs', .slice ba bl.length bc, .slice ka kn kc] 49)))
      have HD1 := hid (HROW.out.alloc (.cells #[.int .i64 xk, .int .i64 xn, .int .i64 xe, .bool xy, .int .i64 bk, .int .i64 bp, .int .i64 be, .int .i64 bs', .slice ba bl.length bc, .slice ka kn kc] 49))
      have HK1 := hid (Blk.new wr #[.int .i64 xk, .int .i64 xn, .int .i64 xe, .bool xy, .int .i64 bk, .int .i64 bp, .int .i64 be, .int .i64 bs', .slice ba bl.length bc, .slice ka kn kc] 49)
      clear hx hcells e2 hrec hl70 hmx
      have hk0i : (0 : Int) ≤ (k : Int) := by omega
      have hk1i : (k : Int) < (q.length : Int) := by omega
      go_upto_region 10 with fail
      generalize wr.alloc (.cells #[.int .i64 xk, .int .i64 xn, .int .i64 xe, .bool xy, .int .i64 bk, .int .i64 bp, .int .i64 be, .int .i64 bs', .slice ba bl.length bc, .slice ka kn kc] 49) = w1 at HT1 HD1 HK1 ⊢
      generalize hbx : wr.heap.size = bx at HK1 ⊢
      clear d0 d1 d2 d3 d4 d5 d6 d7 d8 d9 hbx
      have k0 := HK1.out.cell (i := 0) (v := .int .i64 xk) rfl
      go_upto_if 29 with fail
      go_cut [30] (fun _ wx => ∃ (s2 : PPart) (A2 : ALog) (D2 : PDisk) (S2 SL2 SD2 : Nat → Prop), s.stable A.toP ≤ s2.stable A2.toP ∧ TrioIn (paThing p ll) w wx ll d S2 SL2 SD2 s2 A2.toP D2 ∧ PaWell s2 A2 D2 ∧ wx.ownsRow w.heap.size 49 10 (.slice (some ⟨g, 0, none⟩) q.length vc) q.length (pdsCells q))
      case first =>
        have k1 := HK1.out.cell (i := 1) (v := .int .i64 xn) rfl
        have k2 := HK1.out.cell (i := 2) (v := .int .i64 xe) rfl
        have k3 := HK1.out.cell (i := 3) (v := .bool xy) rfl
        have k4 := HK1.out.cell (i := 4) (v := .int .i64 bk) rfl
        have k5 := HK1.out.cell (i := 5) (v := .int .i64 bp) rfl
        have k6 := HK1.out.cell (i := 6) (v := .int .i64 be) rfl
        have k7 := HK1.out.cell (i := 7) (v := .int .i64 bs') rfl
        have k8 := HK1.out.cell (i := 8) (v := .slice ba bl.length bc) rfl
        by_cases h5 : xk < 5
        · have h6 : decide (xk < 5) = true := decide_eq_true h5
          clear h5
          rw [h6]
          go_wp2_with fail
          refine (paPut_any (N := 1000) ⟨bk, bp, be, bs', bl⟩ (.slice ba bl.length bc) HT1.out.trio (paSmall_of HW.out.good) (fun _ => HW.out.good) (HREC.out.below HT1.out.bel) (fun r hr => by have := HLT.out.2 r hr; omega) (by have := HLT.out.1; dsimp only; omega)).mono ?_
          rintro e w2 ⟨rfl, hto⟩
          have hd2 := HT1.out.trio.typed hto HD1.out (paOther p ll).1.x (paOther p ll).1.y
          obtain ⟨S2, SL2, SD2, ht2⟩ := HT1.out.call hto
          obtain ⟨A2, e1, hw2, hst⟩ := HW.out.put_st ⟨bk, bp, be, bs', bl⟩
          rw [e1] at ht2
          have HFIN := hid (And.intro hst (And.intro ht2 (And.intro hw2 hd2)))
          clear hst ht2 hw2 hd2 hto e1 k0 k1 k2 k3 k4 k5 k6 k7 k8
          go_wp2_with fail
          go_meet
          exact ⟨_, A2, _, S2, SL2, SD2, HFIN.out⟩
        · have h6 : decide (xk < 5) = false := decide_eq_false h5
          clear h5
          rw [h6]
          go_wp2_with fail
          refine (paMark_any (N := 1000) xn xe xy HT1.out.trio (paSmall_of HW.out.good) (fun _ => HW.out.good)).mono ?_
          rintro e w2 ⟨rfl, hto⟩
          have hd2 := HT1.out.trio.typed hto HD1.out (paOther p ll).1.x (paOther p ll).1.y
          obtain ⟨S2, SL2, SD2, ht2⟩ := HT1.out.call hto
          obtain ⟨A2, e1, hw2, hst⟩ := HW.out.mark_st xn xe xy
          rw [e1] at ht2
          have HFIN := hid (And.intro hst (And.intro ht2 (And.intro hw2 hd2)))
          clear hst ht2 hw2 hd2 hto e1 k0 k1 k2 k3 k4 k5 k6 k7 k8
          go_wp2_with fail
          go_meet
          exact ⟨_, A2, _, S2, SL2, SD2, HFIN.out⟩
      case rest =>
        clear HK1 HD1 HT1 HREC HLT HROW HM k0
        obtain ⟨s2, A2, D2, S2, SL2, SD2, hst, ht2, hw2, hd2⟩ := hcut
        have hi := paInv_of hw2.good
        have hsm := paSmall_of hw2.good
        obtain ⟨i1, i2⟩ := hi.st
        have HT2 := hid ht2
        have HW2 := hid hw2
        have HD2 := hid hd2
        have hol := hsm.ol
        clear ht2 hw2 hd2 hi hsm
        go_wp2_with fail
        refine (paStable_any HT2.out.trio).mono ?_
        rintro e w' ⟨rfl, rfl⟩
        have e8 : s2.stable A2.toP = stN s2 A2.next := rfl
        have e9 : A2.toP.next = A2.next := rfl
        have HE8 := hid e8
        have HE9 := hid e9
        rw [← e8, ← e9] at i1 i2
        clear e8 e9
        generalize s2.stable A2.toP = now at hst i1 i2 HE8 ⊢
        generalize s.stable A.toP = was at hst ⊢
        have q1 : decide (now < was) = false := decide_eq_false (by omega)
        have q2 : decide (A2.toP.next < now) = false := decide_eq_false (by omega)
        go_wp2_with fail
        refine (paEnd_any HT2.out.trio).mono ?_
        rintro e w' ⟨rfl, rfl⟩
        go_wp2_with fail
        refine (paEnd_any HT2.out.trio).mono ?_
        rintro e w' ⟨rfl, rfl⟩
        go_wp2_with fail
        refine (paOpens_any HT2.out.trio.obj (by omega)).mono ?_
        rintro e w3 ⟨v3, rfl, hrow3, hb3⟩
        obtain ⟨va3, vc3, rfl⟩ := row_slice hrow3
        have HT3 := hid (HT2.out.below hb3)
        have HD3 := hid (own_bel HD2.out hb3)
        clear hrow3 hb3 HT2 HD2
        by_cases ho : s2.opens = []
        · have h1 := i2.2 ho
          have h2 : decide (now = A2.toP.next) = true := decide_eq_true h1
          have h3 : (now == A2.toP.next) = true := by simpa using h1
          have h4 : s2.opens.length = 0 := by rw [ho]; rfl
          rw [h4]
          clear h1 ho h4 i2
          go_wp2_with fail
          go_roundw
          case rel => exact ⟨k + 1, s2, A2, D2, S2, SL2, SD2, by omega, by go_num, by rw [HE8.out]; rfl, HT3.out, HW2.out, HD3.out⟩
          case measure => simp [intOf]; omega
        · have h1 : ¬ now = A2.toP.next := fun h9 => ho (i2.1 h9)
          have h2 : decide (now = A2.toP.next) = false := decide_eq_false h1
          have h3 : (now == A2.toP.next) = false := by simpa using h1
          have h4 : ¬ (s2.opens.length : Int) = 0 := by
            intro h9
            have h8 : s2.opens.length = 0 := by omega
            exact ho (List.length_eq_zero_iff.1 h8)
          have h5 : decide ((s2.opens.length : Int) = 0) = false := decide_eq_false h4
          have h6 : ((s2.opens.length : Int) == 0) = false := by simpa using h4
          clear h1 ho h4 i2
          go_wp2_with fail
          go_roundw
          case rel => exact ⟨k + 1, s2, A2, D2, S2, SL2, SD2, by omega, by go_num, by rw [HE8.out]; rfl, HT3.out, HW2.out, HD3.out⟩
          case measure => simp [intOf]; omega
    · obtain rfl : k = q.length := by omega
      clear hlt HALL HROW
      go_wp2_with fail
      refine (awake08_any _).mono ?_
      rintro e w3 ⟨rfl, hb3⟩
      have HB := hid (bel_next HM.out.bel hb3)
      clear hb3
      go_wp2_with fail
      go_ret
      exact ⟨rfl, HB.out⟩
end Go.Proofs.YtgjkjkeeblbjlaaGreatDoor
