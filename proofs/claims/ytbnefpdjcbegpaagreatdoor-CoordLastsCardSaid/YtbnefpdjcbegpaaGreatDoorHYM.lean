/-
  CoordLasts, plain: a coordinator whose power may go, and what is there behind a crash. No conditions.
  CoordLasts: the walk. No conditions but deeds and numbers that read.
-/
import Derived.Test.YtbnefpdjcbegpaaGreatDoorHTM
import Derived.Test.YtbnefpdjcbegpaaGreatDoorGIM
import Derived.Test.YtbnefpdjcbegpaaGreatDoorGKM
import Derived.Deep.DeepCutAuto
set_option maxRecDepth 100000
namespace Go.Proofs.YtbnefpdjcbegpaaGreatDoor
open Go.RowKit

/-- One note of a producer's more. -/
def QPid (pid : Int) (s s1 : List PTr) : Prop := ∃ n : TNote, n.pid = pid ∧ foldT s n = (s1, 0)

theorem wrote_some {C : PCo} {A : ALog} {D : PDisk} {pid : Int} {r : CRes} (h : NGood coNotes 1000 C.rows A D) (hw : CWrote C A.toP D pid r) : ∃ A', r.L = A'.toP ∧ NSome coNotes 1000 (QPid pid) r.C.rows A' r.D := by
  rcases hw with ⟨h1, h2, h3⟩ | ⟨n, hn, h1, h2, h3⟩
  · rw [h1, h2, h3]
    exact ⟨A, rfl, .inl h⟩
  · rw [h1, h2, h3]
    rcases coWrite_good (Q := QPid pid) h (n := n) (fun s1 hf => ⟨n, hn, hf⟩) with ⟨c, _, _, e⟩ | ⟨s1, _, _, e, ho⟩
    · rw [e]
      exact ⟨A, rfl, .inl h⟩
    · rw [e]
      generalize noteTo C.rows s1 A.toP D ⟨1, n.text⟩ = q at ho
      cases ho with
      | ok A' D' good fuse next => exact ⟨A', rfl, .inl good⟩
      | no A' D' c good hc fuse => exact ⟨A', rfl, .inl good⟩
      | dark A' D' dark was => exact ⟨A', rfl, .inr dark⟩

theorem NSome.right {Q : List PTr → List PTr → Prop} {s : List PTr} {A : ALog} {D : PDisk} (h : NSome coNotes 1000 Q s A D) : TRight s := by
  rcases h with h | h
  · exact coRight h.rep
  · obtain ⟨A2, B, Y, _, _, _, _, _, _, h7, _⟩ := h.left
    exact coRight h7

/-- Of a row, what is there behind a crash. -/
theorem last_row {s s3 : List PTr} {off : Bool} {pid : Int} (hr : TRight s) (h : s3 = s ∨ (off = true ∧ ∃ e, coNotes.step e s = some s3 ∧ QPid pid s s3)) (k : Int) :
    (rowZ s k = rowZ s3 k ∧ rowC s k = rowC s3 k) ∨ (off = true ∧ k = pid ∧ (rowZ s k).epoch ≤ (rowZ s3 k).epoch ∧ (rowZ s3 k).epoch ≤ (rowZ s k).epoch + 1) := by
  rcases h with rfl | ⟨ho, _, _, n, hn, hf⟩
  · exact .inl ⟨rfl, rfl⟩
  · have hF := foldT_ok hr hf
    by_cases hk : k = pid
    · refine .inr ⟨ho, hk, ?_⟩
      rw [hk, ← hn]
      rcases hF.own with ⟨h1, _, h2⟩ | ⟨t, u, h1, h2, _, h3⟩
      · unfold rowZ
        rw [h1, h2]
        exact ⟨(by decide : (0 : Int) ≤ 1), (by decide : (1 : Int) ≤ 0 + 1)⟩
      · have h4 := (turn_pid h2).2
        unfold rowZ
        rw [h1, h3]
        exact h4
    · have h1 := hF.other k (by rw [hn]; exact hk)
      refine .inl ⟨?_, ?_⟩
      · unfold rowZ; rw [h1]
      · unfold rowC; rw [h1]

theorem row_small {s : List PTr} (h : TRight s) (k : Int) : 0 ≤ (rowZ s k).epoch ∧ (rowZ s k).epoch ≤ 1099511627776 := by
  unfold rowZ
  cases h1 : rowOf s k with
  | none => exact ⟨(by decide : (0 : Int) ≤ 0), (by decide : (0 : Int) ≤ 1099511627776)⟩
  | some t => have h2 := (h.all t (rowOf_mem h1).1).2; exact ⟨by show 0 ≤ t.epoch; omega, h2.2⟩

/-- Numbers that came in, cut at 70. -/
theorem keep_ways13 {w : World} {kv : Value} {keep : List Int} (h : InRow w kv keep.length 1 (keepCells keep)) :
    ∃ kad kcap keep2, kv = .slice kad keep.length kcap ∧ ((decide ((70 : Int) < (keep.length : Int)) = true ∧ keep2.length = 70 ∧ 70 ≤ kcap) ∨ (decide ((70 : Int) < (keep.length : Int)) = false ∧ keep2.length = keep.length)) ∧
      InRow w (.slice kad keep2.length kcap) keep2.length 1 (keepCells keep2) ∧ ∀ a m cap, (Value.slice kad keep2.length kcap) = .slice (some a) m cap → keepCells keep2 ≠ [] → a.block < w.heap.size := by
  obtain ⟨_, kad, kcap, rfl, g3, g4, g5⟩ := h
  have main : ∃ keep2 : List Int, ((decide ((70 : Int) < (keep.length : Int)) = true ∧ keep2.length = 70 ∧ 70 ≤ kcap) ∨ (decide ((70 : Int) < (keep.length : Int)) = false ∧ keep2.length = keep.length)) ∧
      InRow w (.slice kad keep2.length kcap) keep2.length 1 (keepCells keep2) := by
    by_cases h9 : 70 < keep.length
    · refine ⟨keep.take 70, .inl ⟨by simp; omega, by rw [List.length_take]; omega, by omega⟩, ?_⟩
      refine ⟨by simp [keepCells], kad, kcap, rfl, by rw [List.length_take]; omega, g4, fun j u hu => g5 j u ?_⟩
      unfold keepCells at hu ⊢
      rw [List.map_take] at hu
      have hlt := (List.getElem?_eq_some_iff.1 hu).1
      rw [List.getElem?_take_of_lt (by rw [List.length_take] at hlt; omega)] at hu
      exact hu
    · exact ⟨keep, .inr ⟨by simp; omega, rfl⟩, by simp [keepCells], kad, kcap, rfl, g3, g4, g5⟩
  obtain ⟨keep2, h1, h2⟩ := main
  refine ⟨kad, kcap, keep2, rfl, h1, h2, fun a m cap e hne => ?_⟩
  obtain ⟨_, ad', cap', e', _, _, h5⟩ := h2
  injection e with e _ _
  injection e' with e' _ _
  obtain ⟨u, hu⟩ : ∃ u, (keepCells keep2)[0]? = some u := by
    cases hc : keepCells keep2 with
    | nil => exact absurd hc hne
    | cons y l => exact ⟨y, rfl⟩
  obtain ⟨a', ha', hc'⟩ := h5 0 u hu
  rw [← e', e] at ha'
  injection ha' with ha'
  subst ha'
  have := World.block_lt_of_cell? w _ hc'
  unfold Addr.add at this
  simpa using this
end Go.Proofs.YtbnefpdjcbegpaaGreatDoor

namespace Go.Proofs.YtbnefpdjcbegpaaGreatDoor
open Go.RowKit

theorem row_cases (x0 x1 x2 x3 x4 f y0 y1 y2 y3 y4 g : Int) : (decide (x0 = y0) = false ∧ (x0 == y0) = false) ∨ (x0 = y0 ∧ (decide (x1 = y1) = false ∧ (x1 == y1) = false)) ∨ (x0 = y0 ∧ x1 = y1 ∧ (decide (x2 = y2) = false ∧ (x2 == y2) = false)) ∨ (x0 = y0 ∧ x1 = y1 ∧ x2 = y2 ∧ (decide (x3 = y3) = false ∧ (x3 == y3) = false)) ∨ (x0 = y0 ∧ x1 = y1 ∧ x2 = y2 ∧ x3 = y3 ∧ (decide (x4 = y4) = false ∧ (x4 == y4) = false))
    ∨ (x0 = y0 ∧ x1 = y1 ∧ x2 = y2 ∧ x3 = y3 ∧ x4 = y4 ∧ decide (f = g) = false ∧ (f == g) = false ∧ (f != g) = true) ∨ (x0 = y0 ∧ x1 = y1 ∧ x2 = y2 ∧ x3 = y3 ∧ x4 = y4 ∧ f = g) := by
  by_cases h0 : x0 = y0 <;> by_cases h1 : x1 = y1 <;> by_cases h2 : x2 = y2 <;> by_cases h3 : x3 = y3 <;> by_cases h4 : x4 = y4 <;> by_cases h5 : f = g <;> simp [h0, h1, h2, h3, h4, h5]

def LastRel13 (w : World) (c ll d : Nat) (v : Value) (q : List CCell) (pv j : Value) (wr : World) : Prop :=
  ∃ (k : Nat) (pz : Int) (C : PCo) (A : ALog) (D : PDisk) (S SL SD : Nat → Prop), k ≤ q.length ∧ j = .int .i64 k ∧ pv = .int .i64 pz ∧ CoMade w wr c ll d S SL SD C A.toP D ∧ NSome coNotes 1000 (QPid pz) C.rows A D ∧
    (0 ≤ C.now ∧ C.now ≤ 200 + k) ∧ Away wr S SL SD 0 49 7 v q.length (cdsCells q)

def LastEnd13 (w : World) (c ll d : Nat) (pv : Value) (wr : World) : Prop :=
  ∃ (pz : Int) (C : PCo) (A : ALog) (D : PDisk) (S SL SD : Nat → Prop), pv = .int .i64 pz ∧ CoMade w wr c ll d S SL SD C A.toP D ∧ NSome coNotes 1000 (QPid pz) C.rows A D

set_option maxHeartbeats 40000000 in
theorem lasts13_any {w : World} {v v2 kv : Value} {l l2 : List CDeed} {keep : List Int} (n : Int) (h : InCDeeds w v l) (h2 : InCDeeds w v2 l2) (hk : InRow w kv keep.length 1 (keepCells keep)) :
    Calls Tryz.prog 5 #[v, .int .i64 n, v2, kv] w (AwakePost13 w) := by
  obtain ⟨kad, kcap, keep2, rfl, hways, hkr, hap⟩ := keep_ways13 hk
  have HI := hid h
  have HI2 := hid h2
  have HWAYS := hid hways
  have HKR := hid hkr
  have HAP := hid hap
  clear h h2 hk hways hkr hap
  go_enter Tryz.func5, Tryz.ntmps5
  go_wp2_with fail
  refine (made13_any HI.out).mono ?_
  rintro e w1 ⟨c, ll, d, S, SL, SD, C, A, D, k, rfl, hm⟩
  have hn0 := hm.now0
  have hn1 := hm.now1
  have hk80 := hm.few
  have HM := hid hm.made
  have HG := hid hm.room.good
  clear hm HI
  go_wp2_with fail
  generalize wrap64 (n.tmod 9 + 9) = z
  refine (fuse_any d SD D (z.tmod 9) _ HM.out.trio.disk).mono ?_
  rintro e w3 ⟨rfl, hto⟩
  obtain ⟨S3, SL3, SD3, hm3, _⟩ := HM.out.call (HM.out.trio.disk_to hto)
  have HM3 := hid hm3
  have HG3 := hid (HG.out.fused z)
  clear hto hm3 HM HG
  generalize ({ D with fuse := max (z.tmod 9) (-1) } : PDisk) = D0 at HM3 HG3
  go_wp2_with fail
  refine (few13_any (HI2.out.below HM3.out.bel)).mono ?_
  rintro e w4 ⟨v4, rfl, ⟨q4, hql, hrow, hall⟩, hb4⟩
  have HM4 := hid (HM3.out.below hb4)
  have HROW := hid (HM3.out.trio.away hrow)
  have HALL : Hid (∀ x ∈ q4, (∃ ka kn kc, x.K = .slice ka kn kc)) := hid (fun x hx => by
    obtain ⟨⟨_, ka, kc, hK, _⟩, _⟩ := hall x hx
    exact ⟨ka, _, kc, hK⟩)
  obtain ⟨vb, vd, rfl⟩ := row_slice hrow
  have hq80 : q4.length ≤ 80 := by
    have h9 := congrArg List.length hql
    unfold fewC at h9
    rw [List.length_map, List.length_map, List.length_take] at h9
    omega
  clear hrow hall hb4 HM3 hql HI2
  go_upto_block 0 with fail
  go_cut [11, 12] (fun p _ wx => LastEnd13 w c ll d p wx)
  case first =>
    go_wp2_with fail
    go_loopw [11, 12] (fun p j wr => LastRel13 w c ll d (.slice vb q4.length vd) q4 p j wr) (fun _ j _ => q4.length - (intOf j).toNat)
    case atStart => exact ⟨0, 0, C, A, D0, _, _, _, by omega, rfl, rfl, HM4.out, .inl HG3.out, ⟨hn0, by omega⟩, HROW.out⟩
    case round =>
      clear HM4 HROW HG3 hn0 hn1
      obtain ⟨k, pz, C, A, D, S, SL, SD, hk, rfl, rfl, hm, hg, ⟨hn0, hn1⟩, hrow⟩ := hrel
      have HM := hid hm
      have HL := hid hg
      have HROW := hid hrow
      have HEND : Hid (LastEnd13 w c ll d (.int .i64 pz) wr) := hid ⟨pz, C, A, D, S, SL, SD, rfl, hm, hg⟩
      clear hm hg hrow
      by_cases hlt : k < q4.length
      · obtain ⟨b, hb⟩ : ∃ b, D.off = b := ⟨_, rfl⟩
        cases b with
        | false =>
          have HG := hid (HL.out.on hb)
          have HOFF := hid hb
          clear hb
          obtain ⟨x, hx⟩ : ∃ x, q4[k]? = some x := ⟨_, List.getElem?_eq_getElem hlt⟩
          obtain ⟨ka, kn, kc, hK⟩ := HALL.out x (List.mem_of_getElem? hx)
          obtain ⟨xd, xK⟩ := x
          simp only at hK
          subst hK
          obtain ⟨g, cap, hve, hgl, hcells⟩ := OutCDeeds.at HROW.out.row hx
          injection hve with e1 e2 e3
          subst e1 e3
          have d0 := hcells 0 _ rfl
          have d1 := hcells 1 _ rfl
          have d2 := hcells 2 _ rfl
          have d3 := hcells 3 _ rfl
          have d4 := hcells 4 _ rfl
          have d5 := hcells 5 _ rfl
          have d6 := hcells 6 _ rfl
          simp only [Nat.add_zero] at d0
          clear hx hcells e2
          go_wp2_with fail
          refine (off_any d SD D _ HM.out.trio.disk).mono ?_
          rintro e w' ⟨rfl, rfl⟩
          rw [HOFF.out]
          go_wp2_with fail
          refine (coDoes_any (N := 1000) xd ka kn kc HM.out.trio (coRight HG.out.rep) (fun _ => HG.out) ⟨hn0, by omega⟩).mono ?_
          rintro e w6 ⟨rfl, hto⟩
          clear d0 d1 d2 d3 d4 d5 d6
          obtain ⟨S6, SL6, SD6, hm6, haw, _⟩ := HM.out.call hto
          have HRD6 := hid (haw _ _ _ _ _ _ HROW.out)
          obtain ⟨A6, hA6, hg6⟩ := wrote_some HG.out (coDoes_or (x := xd) (ep := aimE xd C.rows))
          have hnow := coDoes_now (C := C) (L := A.toP) (D := D) xd (aimE xd C.rows)
          clear hto haw
          generalize C.does A.toP D xd (aimE xd C.rows) = r at hm6 hA6 hg6 hnow
          obtain ⟨C6, L6, D6, n6, c6⟩ := r
          dsimp only at hm6 hA6 hg6 hnow
          subst hA6
          have HM6 := hid hm6
          have HG6 := hid hg6
          have hnow6 : 0 ≤ C6.now ∧ C6.now ≤ 200 + ((k + 1 : Nat) : Int) := by omega
          have HNOW := hid hnow6
          clear hm6 hg6 hnow hnow6 HM HROW HG HL HEND HOFF
          go_wp2_with fail
          go_roundw
          case rel => exact ⟨k + 1, xd.pid, C6, A6, D6, S6, SL6, SD6, by omega, by go_num, rfl, HM6.out, HG6.out, HNOW.out, HRD6.out⟩
          case measure => simp [intOf]; omega
        | true =>
          have HOFF := hid hb
          clear hb
          go_wp2_with fail
          refine (off_any d SD D _ HM.out.trio.disk).mono ?_
          rintro e w' ⟨rfl, rfl⟩
          rw [HOFF.out]
          go_wp2_with fail
          go_meet
          exact HEND.out
      · obtain rfl : k = q4.length := by omega
        go_wp2_with fail
        go_meet
        exact HEND.out
  case rest =>
    clear HM4 HROW HG3 HALL hn0 hn1 hk80 hq80
    obtain ⟨pz, C, A, D, S, SL, SD, rfl, hm, hl⟩ := hcut
    obtain ⟨A3, D3, s3, a1, a2, _, a3⟩ := hl.again keep2
    have HM := hid hm
    have HRT := hid hl.right
    have HWF := hid hl.wf
    have HA1 := hid a1
    have HG := hid a2
    have HLR := hid (fun k => last_row hl.right a3 k)
    have HSM := hid (fun k => row_small hl.right k)
    have hl8 := hl.right.len
    have hl83 := (coRight a2.rep).len
    clear hm hl a1 a2 a3
    go_wp2_with fail
    refine (off_any d SD D _ HM.out.trio.disk).mono ?_
    rintro e w' ⟨rfl, rfl⟩
    obtain ⟨b, hb⟩ : ∃ b, D.off = b := ⟨_, rfl⟩
    rw [hb] at HLR ⊢
    clear hb
    go_wp2_with fail
    refine (coRows_any HM.out.trio HRT.out).mono ?_
    rintro e w5 ⟨v5, rfl, hrow5, hb5⟩
    have HAW5 := hid (HM.out.trio.away hrow5)
    have HM5 := hid (HM.out.below hb5)
    obtain ⟨va, vc, rfl⟩ := row_slice hrow5
    clear hrow5 hb5 HM
    rcases HWAYS.out with ⟨hlt, hl70, hk70⟩ | ⟨hlt, hl70⟩
    all_goals
      rw [hl70] at HKR HAP
      go_wp2_with fail
      refine (crash_any d SD D 1000 _ keep2 _ HM5.out.trio.disk HWF.out (by rw [hl70]; exact inRow_below13 HKR.out HM5.out.bel) (fun a m cap e hne hs => by have h1 := HAP.out a m cap e hne; have h2 := HM5.out.sd _ hs; omega)).mono ?_
      rintro e w8 ⟨rfl, hto⟩
      obtain ⟨S8, SL8, SD8, hm8, haw, _⟩ := HM5.out.call (HM5.out.trio.disk_to hto)
      have HM8 := hid hm8
      have HAW8 := hid (haw _ _ _ _ _ _ HAW5.out)
      clear hto hm8 haw HM5 HAW5 hlt hl70
      go_wp2_with fail
      refine (coOpen_good (N := 1000) HM8.out.trio.disk (HWF.out.crash keep2) HA1.out HG.out).mono ?_
      rintro e w9 ⟨c9, l9, S9, SL9, SD9, rfl, ht9, hfr9, hs9, hsl9, hsd9⟩
      have HR9 := hid (row_fr HAW8.out.row hfr9 (fun k hk => (HAW8.out.far k hk).sd))
      have HB9 : Hid (Below w.heap.size w w9) := hid (HM8.out.bel.trans (hfr9.to_below HM8.out.bel.size (fun k hk h9 => by have := HM8.out.sd k h9; omega)))
      have HT9 := hid ht9
      clear ht9 hfr9 hs9 hsl9 hsd9 HM8 HAW8
      go_wp2_with fail
      refine (coRows_any HT9.out (coRight HG.out.rep)).mono ?_
      rintro e w10 ⟨v10, rfl, hrow10, hb10⟩
      have HR10 := hid (own_bel HR9.out hb10)
      have HN10 := hid (own_base hrow10 (Nat.zero_le _))
      have HB10 := hid (bel_next HB9.out hb10)
      obtain ⟨na, nc, rfl⟩ := row_slice hrow10
      clear hrow10 hb10 HR9 HB9 HT9
      have hrl : (PCo.new s3 due10).rows = s3 := rfl
      rw [hrl] at HN10 ⊢
      clear hrl
      go_wp2_with fail
      go_loopw [18] (fun j wr => ∃ i : Nat, i ≤ 8 ∧ j = .int .i64 ((i : Int) + 1) ∧ Below w10.heap.size w10 wr) (fun j _ => 9 - (intOf j).toNat)
      case atStart => exact ⟨0, Nat.zero_le _, rfl, Below.refl _ _⟩
      case round =>
        obtain ⟨i, hi, rfl, hb⟩ := hrel
        have HB := hid hb
        clear hb
        by_cases hlt : i < 8
        · have hle : (i : Int) + 1 ≤ 8 := by omega
          have hle2 : decide ((i : Int) + 1 ≤ 8) = true := decide_eq_true hle
          go_wp2_with fail
          refine (refRow_any ((i : Int) + 1) (Reads.of_own (own_bel HR10.out HB.out)) (by omega)).mono ?_
          rintro e w11 ⟨rfl, hb11⟩
          obtain ⟨x, hx⟩ : ∃ x, rowZ C.rows ((i : Int) + 1) = x := ⟨_, rfl⟩
          obtain ⟨f, hf⟩ : ∃ f, rowC C.rows ((i : Int) + 1) = f := ⟨_, rfl⟩
          have HX := hid hx
          have HF := hid hf
          rw [hx, hf]
          clear hx hf
          unfold PTr.val
          have HB12 := hid (bel_next (bel_next HB.out hb11) (bel_alloc (Below.refl w11.heap.size w11) (.cells #[.int .i64 x.pid, .int .i64 x.epoch, .int .i64 x.state, .int .i64 x.parts, .int .i64 x.last] 28)))
          have HX12 := hid (Blk.new w11 #[.int .i64 x.pid, .int .i64 x.epoch, .int .i64 x.state, .int .i64 x.parts, .int .i64 x.last] 28)
          clear hb11 HB
          go_wp2_with fail
          generalize w11.alloc (.cells #[.int .i64 x.pid, .int .i64 x.epoch, .int .i64 x.state, .int .i64 x.parts, .int .i64 x.last] 28) = w12 at HB12 HX12 ⊢
          generalize w11.heap.size = bx at HX12 ⊢
          refine (refRow_any ((i : Int) + 1) (Reads.of_own (own_bel HN10.out HB12.out)) (by omega)).mono ?_
          rintro e w13 ⟨rfl, hb13⟩
          obtain ⟨y, hy⟩ : ∃ y, rowZ s3 ((i : Int) + 1) = y := ⟨_, rfl⟩
          obtain ⟨g, hg⟩ : ∃ g, rowC s3 ((i : Int) + 1) = g := ⟨_, rfl⟩
          rw [hy, hg]
          have hlr := HLR.out ((i : Int) + 1)
          have hsm := HSM.out ((i : Int) + 1)
          rw [HX.out, HF.out, hy, hg] at hlr
          rw [HX.out] at hsm
          clear hy hg HX HF
          unfold PTr.val
          have HB14 := hid (bel_next (bel_next HB12.out hb13) (bel_alloc (Below.refl w13.heap.size w13) (.cells #[.int .i64 y.pid, .int .i64 y.epoch, .int .i64 y.state, .int .i64 y.parts, .int .i64 y.last] 28)))
          have hX14 := (HX12.out.below' hb13).alloc (.cells #[.int .i64 y.pid, .int .i64 y.epoch, .int .i64 y.state, .int .i64 y.parts, .int .i64 y.last] 28)
          have hY14 := Blk.new w13 #[.int .i64 y.pid, .int .i64 y.epoch, .int .i64 y.state, .int .i64 y.parts, .int .i64 y.last] 28
          clear hb13 HB12 HX12
          go_upto_region 26 with fail
          generalize w13.alloc (.cells #[.int .i64 y.pid, .int .i64 y.epoch, .int .i64 y.state, .int .i64 y.parts, .int .i64 y.last] 28) = w14 at HB14 hX14 hY14 ⊢
          generalize w13.heap.size = yb at hY14 ⊢
          obtain ⟨x0, x1, x2, x3, x4⟩ := x
          obtain ⟨y0, y1, y2, y3, y4⟩ := y
          dsimp only at hX14 hY14 hlr hsm
          have a0 := hX14.cell (i := 0) (v := .int .i64 x0) rfl
          have a1 := hX14.cell (i := 1) (v := .int .i64 x1) rfl
          have a2 := hX14.cell (i := 2) (v := .int .i64 x2) rfl
          have a3 := hX14.cell (i := 3) (v := .int .i64 x3) rfl
          have a4 := hX14.cell (i := 4) (v := .int .i64 x4) rfl
          have b0 := hY14.cell (i := 0) (v := .int .i64 y0) rfl
          have b1 := hY14.cell (i := 1) (v := .int .i64 y1) rfl
          have b2 := hY14.cell (i := 2) (v := .int .i64 y2) rfl
          have b3 := hY14.cell (i := 3) (v := .int .i64 y3) rfl
          have b4 := hY14.cell (i := 4) (v := .int .i64 y4) rfl
          clear hX14 hY14
          rcases hlr with ⟨hxy, hfg⟩ | ⟨hbt, hkp, hle1, hle3⟩
          · injection hxy with e0 e1 e2 e3 e4
            subst e0 e1 e2 e3 e4 hfg
            clear hsm
            go_wp2_with fail
            go_roundw
            case rel => exact ⟨i + 1, by omega, by go_num, HB14.out⟩
            case measure => simp [intOf]; omega
          · subst hbt
            have k1 : ((i : Int) + 1 != pz) = false := by simpa using hkp
            have k2 : decide ((i : Int) + 1 = pz) = true := decide_eq_true hkp
            have k3 : ((i : Int) + 1 == pz) = true := by simpa using hkp
            have l1 : decide (y1 < x1) = false := decide_eq_false (by omega)
            have l2 : decide (wrap64 (x1 + 1) < y1) = false := by rw [IntWalk.wrap64_in _ (by omega)]; exact decide_eq_false (by omega)
            have hcs := row_cases x0 x1 x2 x3 x4 f y0 y1 y2 y3 y4 g
            clear hkp hle1 hle3 hsm
            rcases hcs with ⟨n1, n2⟩ | ⟨rfl, n1, n2⟩ | ⟨rfl, rfl, n1, n2⟩ | ⟨rfl, rfl, rfl, n1, n2⟩ | ⟨rfl, rfl, rfl, rfl, n1, n2⟩ | ⟨rfl, rfl, rfl, rfl, rfl, n1, n2, n3⟩ | ⟨rfl, rfl, rfl, rfl, rfl, rfl⟩
            all_goals (
              go_wp2_with fail
              go_roundw
              case rel => exact ⟨i + 1, by omega, by go_num, HB14.out⟩
              case measure => simp [intOf]; omega)
        · have hle : ¬ ((i : Int) + 1 ≤ 8) := by omega
          have hle2 : decide ((i : Int) + 1 ≤ 8) = false := decide_eq_false hle
          go_wp2_with fail
          refine (awake13_any _).mono ?_
          rintro e w11 ⟨rfl, hb11⟩
          have HB99 := hid (bel_next (bel_next HB10.out HB.out) hb11)
          clear hb11
          go_wp2_with fail
          go_ret
          exact ⟨rfl, HB99.out⟩
end Go.Proofs.YtbnefpdjcbegpaaGreatDoor
