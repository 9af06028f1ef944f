/-
  PartCommitted: the walk. No conditions but deeds that read.
-/
import Derived.Test.YtgjkjkeeblbjlaaGreatDoorJQM
import Derived.Test.YtgjkjkeeblbjlaaGreatDoorJPM
import Derived.Maps.AppendAt
import Derived.BigRegion
set_option maxRecDepth 100000
namespace Go.Proofs.YtgjkjkeeblbjlaaGreatDoor
open Go.RowKit

theorem most8 (n : Int) : 1 ≤ wrap64 (1 + (wrap64 (n.tmod 32 + 32)).tmod 32) ∧ wrap64 (1 + (wrap64 (n.tmod 32 + 32)).tmod 32) ≤ 32 := by
  have h1 := Int.tmod_lt_of_pos n (show (0 : Int) < 32 by decide)
  have h2 : 0 ≤ n.tmod 32 + 32 := by have := Int.lt_tmod_of_pos n (show (0 : Int) < 32 by decide); omega
  have h3 := Int.tmod_nonneg 32 h2
  have h4 := Int.tmod_lt_of_pos (n.tmod 32 + 32) (show (0 : Int) < 32 by decide)
  rw [IntWalk.wrap64_in (n.tmod 32 + 32) (by omega), IntWalk.wrap64_in _ (by omega)]
  omega

/-- Two rows of the call's own, with blocks of their own. -/
structure Two8 (w0 wr : World) (va : Value) (a : List PGot) (vb : Value) (b : List PGot) : Prop where
  one : wr.ownsRow w0.heap.size 38 4 va a.length (gotCells a)
  two : wr.ownsRow w0.heap.size 38 4 vb b.length (gotCells b)
  ne : ∀ k, va.ownBlock = some k → ¬ vb.ownBlock = some k

theorem Two8.swap {w0 wr : World} {va vb : Value} {a b : List PGot} (h : Two8 w0 wr va a vb b) : Two8 w0 wr vb b va a := ⟨h.two, h.one, fun k h1 h2 => h.ne k h2 h1⟩
theorem Two8.below {w0 wr w2 : World} {va vb : Value} {a b : List PGot} (h : Two8 w0 wr va a vb b) (hb : Below wr.heap.size wr w2) : Two8 w0 w2 va a vb b := ⟨own_bel h.one hb, own_bel h.two hb, h.ne⟩
theorem Two8.grow {w0 wr wx w2 : World} {va vb v' : Value} {a b : List PGot} {x : PGot} (h : Two8 w0 wr va a vb b) (hb : Below wr.heap.size wr wx) (ho : w2.ownsRow w0.heap.size 38 4 v' (a.length + 1) (gotCells a ++ x.cells)) (hg : wx.grownBy w2 va.ownBlock) (hat : v'.ownBlock = va.ownBlock ∨ v'.ownBlock = some wx.heap.size) : Two8 w0 w2 v' (a ++ [x]) vb b := by
  refine ⟨?_, row_fr (own_bel h.two hb) (fr_grown hg) (fun k h1 h2 => h.ne k h2 h1), fun k h1 h2 => ?_⟩
  · rw [List.length_append, gotCells_app]
    have e : gotCells [x] = x.cells := by unfold gotCells; simp
    rw [e]
    exact ho
  · rcases hat with h9 | h9
    · exact h.ne k (h9 ▸ h1) h2
    · rw [h9] at h1
      injection h1 with h1
      have h8 := (h.two.lt k h2).2
      have := hb.size
      omega

/-- A row of records, read. -/
structure RowRd (w : World) (ra : Option Addr) (rcap : Nat) (rows : List RCell) (base : Nat) : Prop where
  row : w.ownsRow base 33 7 (.slice ra rows.length rcap) rows.length (rwsCells rows)
  reads : ∀ x ∈ rows, InRecs w x.B x.r.b.l

theorem RowRd.below {w w2 : World} {ra : Option Addr} {rcap base : Nat} {rows : List RCell} (h : RowRd w ra rcap rows base) (hb : Below w.heap.size w w2) : RowRd w2 ra rcap rows base := ⟨own_bel h.row hb, fun x hx => (h.reads x hx).below hb⟩

theorem RowRd.at {w : World} {ra : Option Addr} {rcap base : Nat} {rows : List RCell} (h : RowRd w ra rcap rows base) {k : Nat} {x : RCell} (hx : rows[k]? = some x) :
    ∃ g, ra = some ⟨g, 0, none⟩ ∧ ∀ r u, (rwCells x)[r]? = some u → w.cell? ⟨g, k * 7 + r, none⟩ = some u := by
  have hk : k < rows.length := (List.getElem?_eq_some_iff.1 hx).1
  rcases Joins.ownsRow_forms h.row with ⟨_, hz⟩ | ⟨g, cap, h9⟩
  · omega
  · injection h9 with h9
    subst h9
    refine ⟨g, rfl, fun r u hu => ?_⟩
    have hr9 : r < 7 := (List.getElem?_eq_some_iff.1 hu).1
    rw [h.row.cellAt (k * 7 + r) (by omega), rws_at rows k x hx r hr9]
    exact hu

theorem stableR_drop {rows : List RCell} {k : Nat} {x : RCell} {nx : Int} (hx : rows[k]? = some x) : stableR ((rows.drop k).map RCell.r) nx = if x.r.b.kind = 2 ∧ x.r.fin = 0 then x.r.base else stableR ((rows.drop (k + 1)).map RCell.r) nx := by
  have hk := (List.getElem?_eq_some_iff.1 hx).1
  have hd : rows.drop k = x :: rows.drop (k + 1) := by
    rw [List.drop_eq_getElem_cons hk]
    congr 1
    exact (List.getElem?_eq_some_iff.1 hx).2
  rw [hd, List.map_cons, stableR]

theorem recsAt_take {base : Int} {l : List PRec} {j : Nat} {x : PRec} (hx : l[j]? = some x) : recsAt base (l.take (j + 1)) = recsAt base (l.take j) ++ [⟨base + j, x⟩] := by
  have hj := (List.getElem?_eq_some_iff.1 hx).1
  have hl : (l.take j).length = j := by rw [List.length_take]; omega
  unfold recsAt
  rw [List.take_add_one, hx, Option.toList_some, List.mapIdx_append, hl]
  simp

/-- Is a row wanted? -/
def wantR (st : Int) (x : RCell) : Bool := decide (x.r.base < st) && decide (x.r.fin ≠ 4)
theorem want_take {rows : List RCell} {n : Nat} {x : RCell} {st : Int} (hx : rows[n]? = some x) : wantP ((rows.take (n + 1)).map RCell.r) st = wantP ((rows.take n).map RCell.r) st ++ (if wantR st x = true then recsAt x.r.base x.r.b.l else []) := by
  unfold wantP
  rw [List.take_add_one, hx, Option.toList_some, List.map_append, List.filter_append, List.flatMap_append]
  congr 1
  rw [List.map_cons, List.map_nil, List.filter_cons, List.filter_nil]
  unfold wantR
  split
  · simp
  · simp
theorem all_take {rows : List RCell} {n : Nat} {x : RCell} (hx : rows[n]? = some x) : allP ((rows.take (n + 1)).map RCell.r) = allP ((rows.take n).map RCell.r) ++ recsAt x.r.base x.r.b.l := by
  unfold allP
  rw [List.take_add_one, hx, Option.toList_some, List.map_append, List.flatMap_append]
  simp

theorem recs_len {base : Int} {l : List PRec} : (recsAt base l).length = l.length := by unfold recsAt; rw [List.length_mapIdx]

theorem want_len {l : List PRow} (h : ∀ r ∈ l, r.b.l.length ≤ 64) (st : Int) : (wantP l st).length ≤ 64 * l.length ∧ (allP l).length ≤ 64 * l.length := by
  induction l with
  | nil => exact ⟨Nat.le_refl _, Nat.le_refl _⟩
  | cons r l ih =>
    obtain ⟨i1, i2⟩ := ih (fun x hx => h x (List.mem_cons_of_mem _ hx))
    have h1 := h r (by simp)
    have e1 : allP (r :: l) = recsAt r.base r.b.l ++ allP l := rfl
    have e2 : wantP (r :: l) st = (if (decide (r.base < st) && decide (r.fin ≠ 4)) = true then recsAt r.base r.b.l else []) ++ wantP l st := by
      unfold wantP
      rw [List.filter_cons]
      split <;> rfl
    rw [e1, e2, List.length_append, List.length_append, recs_len, List.length_cons, Nat.mul_add]
    refine ⟨?_, by omega⟩
    split
    · rw [recs_len]; omega
    · simp only [List.length_nil]; omega

def CoIn (w0 : World) (st : Int) (rows : List RCell) (n : Nat) (x : RCell) (wv av j : Value) (wr : World) : Prop :=
  ∃ (k : Nat) (v1 v2 : Value), k ≤ x.r.b.l.length ∧ j = .int .i64 k ∧ v1 = wv ∧ v2 = av ∧ Two8 w0 wr v1 (wantP ((rows.take n).map RCell.r) st ++ (if wantR st x = true then recsAt x.r.base (x.r.b.l.take k) else [])) v2 (allP ((rows.take n).map RCell.r) ++ recsAt x.r.base (x.r.b.l.take k)) ∧ Below w0.heap.size w0 wr
def CoOut (w0 : World) (st : Int) (rows : List RCell) (wv av i : Value) (wr : World) : Prop :=
  ∃ (n : Nat) (v1 v2 : Value), n ≤ rows.length ∧ i = .int .i64 n ∧ v1 = wv ∧ v2 = av ∧ Two8 w0 wr v1 (wantP ((rows.take n).map RCell.r) st) v2 (allP ((rows.take n).map RCell.r)) ∧ Below w0.heap.size w0 wr

set_option maxHeartbeats 16000000 in
theorem partCommitted_any {w : World} {v : Value} {l : List PDeed} (most : Int) (h : InPDeeds w v l) : Calls Tryz.prog 3 #[v, .int .i64 most] w (AwakePost8 w) := by
  obtain ⟨i1, hi1, hy0, hy1, hy2⟩ := info_parts Tryz.infoGot
  have HI := hid h
  clear h
  go_enter Tryz.func3, Tryz.ntmps3
  go_wp2_with fail
  refine (made08_any HI.out).mono ?_
  rintro e w1 ⟨p, ll, d, S, SL, SD, s, A, D, rv, rows, rfl, hm⟩
  obtain ⟨ra, rcap, rfl⟩ := row_slice hm.row
  have hrr : RowRd w1 ra rcap rows w.heap.size := ⟨hm.row, fun x hx => (hm.reads x hx).below hm.trio.bel⟩
  have HM := hid hm
  have HRR := hid hrr
  have hr40 := hm.rlen
  have hst := hm.inv.stable hm.well.good
  have hl64 : ∀ x ∈ rows, x.r.b.l.length ≤ 64 ∧ 0 ≤ x.r.base ∧ x.r.base ≤ 2560 := fun x hx => by
    have h9 := hm.inv.ok x.r (List.mem_map_of_mem hx)
    have h8 := (next_small hm.well.good hm.len).2
    have h7 := x.r.b.len1
    exact ⟨h9.1.1.2.2, h9.2.2.1, by omega⟩
  have HST := hid hst
  have HL64 := hid hl64
  clear hm hrr hst hl64 HI
  go_upto_region 5 with fail
  have hz := most8 most
  generalize wrap64 (1 + (wrap64 (most.tmod 32 + 32)).tmod 32) = z at hz ⊢
  obtain ⟨hz1, hz2⟩ := hz
  go_wp2_with fail
  refine (paEnd_any HM.out.trio.trio).mono ?_
  rintro e w' ⟨rfl, rfl⟩
  go_wp2_with fail
  go_loopw [10, 9] (fun i sv wr => ∃ k : Nat, k ≤ rows.length ∧ i = .int .i64 ((k : Int) - 1) ∧ sv = .int .i64 (stableR ((rows.drop k).map RCell.r) A.next) ∧ wr = w1) (fun i _ _ => (intOf i + 1).toNat)
  case atStart => exact ⟨rows.length, Nat.le_refl _, by go_num, by rw [List.drop_length]; rfl, rfl⟩
  case round =>
    obtain ⟨k, hk, rfl, rfl, rfl⟩ := hrel
    rcases Nat.eq_zero_or_pos k with rfl | hk0
    · obtain ⟨W1, hW1⟩ : ∃ W1, W1 = wr := ⟨_, rfl⟩
      subst hW1
      have e0 : ((0 : Nat) : Int) - 1 = -1 := rfl
      rw [e0, List.drop_zero, HST.out]
      clear e0
      have hst0 : s.stable A.toP = stN s A.next := rfl
      have HS0 := hid hst0
      clear hst0
      generalize hsta : s.stable A.toP = st at HS0 HST
      have HSTA := hid hsta
      clear hsta
      go_wp2_with fail
      go_loopw [11, 12, 13] (fun wv av i wx => CoOut W1 st rows wv av i wx) (fun _ _ i _ => rows.length - (intOf i).toNat)
      case atStart => exact ⟨0, _, _, Nat.zero_le _, rfl, rfl, rfl, ⟨World.ownsRow_nil _ _ _ _, World.ownsRow_nil _ _ _ _, fun k hk => by cases hk⟩, Below.refl _ _⟩
      case round =>
        rename World => wx
        obtain ⟨n, v1, v2, hn, rfl, rfl, rfl, htwo, hb⟩ := hrel
        have HTW := hid htwo
        have HB := hid hb
        have HR2 := hid (HRR.out.below hb)
        clear htwo hb
        by_cases hlt : n < rows.length
        · obtain ⟨x, hx⟩ : ∃ x, rows[n]? = some x := ⟨_, List.getElem?_eq_getElem hlt⟩
          have hmx := List.mem_of_getElem? hx
          obtain ⟨hx64, hxb0, hxb1⟩ := HL64.out x hmx
          have HWT := hid (want_take (st := st) hx)
          have HAT := hid (all_take hx)
          have HX := hid hx
          have HMX := hid hmx
          have hwl := want_len (l := (rows.take n).map RCell.r) (fun r hr => by obtain ⟨y, hy, rfl⟩ := List.mem_map.1 hr; exact (HL64.out y (List.mem_of_mem_take hy)).1) st
          rw [List.length_map, List.length_take] at hwl
          obtain ⟨hwl1, hwl2⟩ := hwl
          clear hx hmx
          have hn0 : (0 : Int) ≤ (n : Int) := by omega
          have hn1 : (n : Int) < (rows.length : Int) := by omega
          have hn2 : decide ((n : Int) < (rows.length : Int)) = true := decide_eq_true hn1
          go_wp2_with fail
          go_loopw [11, 12, 14] (fun wv av j wy => CoIn W1 st rows n x wv av j wy) (fun _ _ j _ => x.r.b.l.length - (intOf j).toNat)
          case atStart => exact ⟨0, _, _, Nat.zero_le _, rfl, rfl, rfl, by simpa [recsAt] using HTW.out, HB.out⟩
          case round =>
            clear HTW HB HR2
            rename World => wx
            obtain ⟨k, v1, v2, hk, rfl, rfl, rfl, htwo, hb⟩ := hrel
            have HTW := hid htwo
            have HB := hid hb
            have HR2 := hid (HRR.out.below hb)
            clear htwo hb
            obtain ⟨g, rfl, hcl⟩ := HR2.out.at HX.out
            have r0 := hcl 0 _ rfl
            have r1 := hcl 1 _ rfl
            have r6 : wx.cell? ⟨g, n * 7 + 2 + 4, none⟩ = some x.B := hcl 6 _ rfl
            have r6b : wx.cell? ⟨g, n * 7 + 6, none⟩ = some x.B := hcl 6 _ rfl
            simp only [Nat.add_zero] at r0
            have hrec := HR2.out.reads x HMX.out
            obtain ⟨ba, bc, hB, _, _⟩ := hrec.form
            rw [hB] at r6 r6b hrec
            have HREC := hid hrec
            clear hcl hrec hB
            by_cases hkl : k < x.r.b.l.length
            · obtain ⟨y, hy⟩ : ∃ y, x.r.b.l[k]? = some y := ⟨_, List.getElem?_eq_getElem hkl⟩
              obtain ⟨a, rfl, y0, y1, y2⟩ := HREC.out.at hy
              have HRT := hid (recsAt_take (base := x.r.base) hy)
              clear hy
              have hrl := recs_len (base := x.r.base) (l := x.r.b.l.take k)
              rw [List.length_take, Nat.min_eq_left (by omega)] at hrl
              have HRL := hid hrl
              clear hrl
              obtain ⟨c0, c1, c2⟩ := y
              dsimp only at y0 y1 y2
              have hk0 : (0 : Int) ≤ (k : Int) := by omega
              have hk1 : (k : Int) < (x.r.b.l.length : Int) := by omega
              have hk2 : decide ((k : Int) < (x.r.b.l.length : Int)) = true := decide_eq_true hk1
              have hw1 : wrap64 (x.r.base + (k : Int)) = x.r.base + k := IntWalk.wrap64_in _ (by omega)
              have ra6 := Lib.cell?_alloc_some (.cells #[.int .i64 0, .int .i64 0, .int .i64 0, .string ⟨#[]⟩] 38) r6
              have ra0 := Lib.cell?_alloc_some (.cells #[.int .i64 0, .int .i64 0, .int .i64 0, .string ⟨#[]⟩] 38) r0
              have ya0 := Lib.cell?_alloc_some (.cells #[.int .i64 0, .int .i64 0, .int .i64 0, .string ⟨#[]⟩] 38) y0
              have ya1 := Lib.cell?_alloc_some (.cells #[.int .i64 0, .int .i64 0, .int .i64 0, .string ⟨#[]⟩] 38) y1
              have ya2 := Lib.cell?_alloc_some (.cells #[.int .i64 0, .int .i64 0, .int .i64 0, .string ⟨#[]⟩] 38) y2
              go_upto_region 18 with fail
              go_region
              clear ra0 ra6 ya0 ya1 ya2 r0 r1 r6 r6b y0 y1 y2
              have hbA := (bel_alloc (Below.refl wx.heap.size wx) (.cells #[.int .i64 (x.r.base + k), .int .i64 c0, .int .i64 c1, .string (bs c2)] 38)).drew
              have hkA := (Blk.new wx #[.int .i64 (x.r.base + k), .int .i64 c0, .int .i64 c1, .string (bs c2)] 38).drew
              have HBA := hid hbA
              have HKA := hid hkA
              have HTA := hid (HTW.out.below hbA)
              have hszA := hbA.size
              have hlt1 : (wantP ((rows.take n).map RCell.r) st ++ (if wantR st x = true then recsAt x.r.base (x.r.b.l.take k) else [])).length ≤ 5000 := by
                rw [List.length_append]
                split
                · rw [HRL.out]; omega
                · simp only [List.length_nil]; omega
              have hlt2 : (allP ((rows.take n).map RCell.r) ++ recsAt x.r.base (x.r.b.l.take k)).length ≤ 5000 := by
                rw [List.length_append, HRL.out]; omega
              clear hbA hkA
              generalize (wx.alloc (.cells #[.int .i64 (x.r.base + k), .int .i64 c0, .int .i64 c1, .string (bs c2)] 38)).drew = wa at HBA HKA HTA hszA ⊢
              have hnb1 : ¬ v1.ownBlock = some wx.heap.size := fun e9 => by have := (HTW.out.one.lt _ e9).2; omega
              have hnb2 : ¬ v2.ownBlock = some wx.heap.size := fun e9 => by have := (HTW.out.two.lt _ e9).2; omega
              have HNB1 := hid hnb1
              have HNB := hid hnb2
              clear hnb1 hnb2
              generalize hbq : wx.heap.size = bq at HKA HNB HNB1 ⊢
              clear hbq
              have q0 := HKA.out.cell (i := 0) (v := .int .i64 (x.r.base + k)) rfl
              have q1 := HKA.out.cell (i := 1) (v := .int .i64 c0) rfl
              have q2 := HKA.out.cell (i := 2) (v := .int .i64 c1) rfl
              have q3 := HKA.out.cell (i := 3) (v := .string (bs c2)) rfl
              generalize hww : wantP ((rows.take n).map RCell.r) st ++ (if wantR st x = true then recsAt x.r.base (x.r.b.l.take k) else []) = ww at HTA hlt1
              have HWW := hid hww
              generalize haa : allP ((rows.take n).map RCell.r) ++ recsAt x.r.base (x.r.b.l.take k) = aa at HTA hlt2
              have HAA := hid haa
              have hszw : W1.heap.size ≤ wa.heap.size := (bel_next HB.out HBA.out).size
              clear hww haa
              go_wp2_with (first
                | (at_builtin; refine wpList_append_own_at _ rfl _ _ 34 rfl W1.heap.size 38 i1 (.agg #[.int .i64 0, .int .i64 0, .int .i64 0, .string ⟨#[]⟩]) 4 40 Tryz.underlying34 hi1 hy0 hy1 hy2 rfl (by decide) _ _ _ rfl (HTA.out.two.alloc _) ⟨wa.heap.size, 0, none⟩ 1 1 [.int .i64 (x.r.base + k), .int .i64 c0, .int .i64 c1, .string (bs c2)] rfl rfl (fun j u hj => by rw [Addr.add_lit, Nat.zero_add]; exact (Blk.new wa _ _).cell (by simpa using hj)) (by simp [Value.oneCell']) (by unfold maxLen; omega) (by omega) (by simp; omega) ?_))
              intro v3 w3 hown3 hgrow3 _ hat3
              have htw3 := HTA.out.swap.grow (x := ⟨x.r.base + k, ⟨c0, c1, c2⟩⟩) (bel_alloc (Below.refl _ wa) _) hown3 hgrow3 (by simpa using hat3)
              have hb3 := bel_append (bel_alloc (bel_next HB.out HBA.out) _) (HTA.out.two.alloc _) (by simp; omega) hgrow3
              have hk3 := (HKA.out.alloc (.cells #[.int .i64 (x.r.base + k), .int .i64 c0, .int .i64 c1, .string (bs c2)] 38)).grown hgrow3 (fun e9 => HNB.out e9)
              have HTW3 := hid htw3.swap
              have HB3 := hid hb3
              have HK3 := hid hk3
              clear htw3 hb3 hk3 hown3 hgrow3 hat3 HTA HKA q0 q1 q2 q3
              have HR3 := hid (HRR.out.below HB3.out)
              obtain ⟨g3, hg3, hcl⟩ := HR3.out.at HX.out
              injection hg3 with hg3
              injection hg3 with hg3
              subst hg3
              have t0 := hcl 0 _ rfl
              have t1 := hcl 1 _ rfl
              simp only [Nat.add_zero] at t0
              have hfin0 : aa ++ [⟨x.r.base + k, ⟨c0, c1, c2⟩⟩] = allP ((rows.take n).map RCell.r) ++ recsAt x.r.base (x.r.b.l.take (k + 1)) := by rw [HRT.out, ← List.append_assoc, HAA.out]
              have HFA := hid hfin0
              rw [hfin0] at HTW3
              clear hcl hfin0
              by_cases hb1 : x.r.base < st
              · have hb2 : decide (x.r.base < st) = true := decide_eq_true hb1
                by_cases hf4 : x.r.fin = 4
                · have hf1 : (x.r.fin != 4) = false := by simpa using hf4
                  have hf2 : decide (x.r.fin = 4) = true := decide_eq_true hf4
                  have hf3 : (x.r.fin == 4) = true := by simpa using hf4
                  have hwr : wantR st x = false := by unfold wantR; rw [show decide (x.r.fin ≠ 4) = false from decide_eq_false (fun h9 => h9 hf4), Bool.and_false]
                  have hww := HWW.out
                  rw [hwr, if_neg (by decide)] at hww
                  rw [← hww] at HTW3
                  have HWR := hid hwr
                  clear hwr hww hf4 hb1
                  go_wp2_with fail
                  go_roundw
                  case rel => exact ⟨k + 1, _, _, by omega, by go_num, rfl, rfl, by rw [HWR.out, if_neg (by decide)]; exact HTW3.out, HB3.out⟩
                  case measure => simp [intOf]; omega
                · have hf1 : (x.r.fin != 4) = true := by simpa using hf4
                  have hf2 : decide (x.r.fin = 4) = false := decide_eq_false hf4
                  have hf3 : (x.r.fin == 4) = false := by simpa using hf4
                  have hwr : wantR st x = true := by unfold wantR; rw [hb2, show decide (x.r.fin ≠ 4) = true from decide_eq_true hf4]; rfl
                  have hfw : ww ++ [⟨x.r.base + k, ⟨c0, c1, c2⟩⟩] = wantP ((rows.take n).map RCell.r) st ++ (if wantR st x = true then recsAt x.r.base (x.r.b.l.take (k + 1)) else []) := by rw [← HWW.out, hwr, if_pos rfl, if_pos rfl, HRT.out, List.append_assoc]
                  have HFW := hid hfw
                  clear hfw hwr hf4 hb1
                  have q0 := HK3.out.cell (i := 0) (v := .int .i64 (x.r.base + k)) rfl
                  have q1 := HK3.out.cell (i := 1) (v := .int .i64 c0) rfl
                  have q2 := HK3.out.cell (i := 2) (v := .int .i64 c1) rfl
                  have q3 := HK3.out.cell (i := 3) (v := .string (bs c2)) rfl
                  have hszw3 : W1.heap.size ≤ w3.heap.size := HB3.out.size
                  go_wp2_with (first
                    | (at_builtin; refine wpList_append_own_at _ rfl _ _ 34 rfl W1.heap.size 38 i1 (.agg #[.int .i64 0, .int .i64 0, .int .i64 0, .string ⟨#[]⟩]) 4 40 Tryz.underlying34 hi1 hy0 hy1 hy2 rfl (by decide) _ _ _ rfl (HTW3.out.one.alloc _) ⟨w3.heap.size, 0, none⟩ 1 1 [.int .i64 (x.r.base + k), .int .i64 c0, .int .i64 c1, .string (bs c2)] rfl rfl (fun j u hj => by rw [Addr.add_lit, Nat.zero_add]; exact (Blk.new w3 _ _).cell (by simpa using hj)) (by simp [Value.oneCell']) (by unfold maxLen; omega) (by omega) (by simp; omega) ?_))
                  intro v4 w4 hown4 hgrow4 _ hat4
                  have htw4 := HTW3.out.grow (x := ⟨x.r.base + k, ⟨c0, c1, c2⟩⟩) (bel_alloc (Below.refl _ w3) _) hown4 hgrow4 (by simpa using hat4)
                  rw [HFW.out] at htw4
                  have hb4 := bel_append (bel_alloc HB3.out _) (HTW3.out.one.alloc _) (by simp; omega) hgrow4
                  have HTW4 := hid htw4
                  have HB4 := hid hb4
                  clear htw4 hb4 hown4 hgrow4 hat4 HTW3 q0 q1 q2 q3
                  go_wp2_with fail
                  go_roundw
                  case rel => exact ⟨k + 1, _, _, by omega, by go_num, rfl, rfl, HTW4.out, HB4.out⟩
                  case measure => simp [intOf]; omega
              · have hb2 : decide (x.r.base < st) = false := decide_eq_false hb1
                have hwr : wantR st x = false := by unfold wantR; rw [hb2, Bool.false_and]
                have hww := HWW.out
                rw [hwr, if_neg (by decide)] at hww
                rw [← hww] at HTW3
                have HWR := hid hwr
                clear hwr hww hb1
                go_wp2_with fail
                go_roundw
                case rel => exact ⟨k + 1, _, _, by omega, by go_num, rfl, rfl, by rw [HWR.out, if_neg (by decide)]; exact HTW3.out, HB3.out⟩
                case measure => simp [intOf]; omega
            · obtain rfl : k = x.r.b.l.length := by omega
              have hfin := HTW.out
              rw [List.take_length, ← HWT.out, ← HAT.out] at hfin
              have HFIN := hid hfin
              clear hfin
              go_wp2_with fail
              go_roundw
              case rel => exact ⟨n + 1, _, _, by omega, by go_num, rfl, rfl, HFIN.out, HB.out⟩
              case measure => simp [intOf]; omega
        · obtain rfl : n = rows.length := by omega
          clear HL64
          have hfin := HTW.out
          rw [List.take_length] at hfin
          have hto := HM.out.inv.told HM.out.well.good
          rw [HSTA.out] at hto
          have HTO := hid hto
          have htio : TrioIn (paThing p ll) w wx ll d S SL SD s A.toP D := HM.out.trio.below HB.out
          have HT2 := hid htio
          have HFIN := hid hfin
          have hal : A.all.length ≤ 300 := by have := HM.out.len; omega
          have hwl := want_len (l := rows.map RCell.r) (fun r hr => (HM.out.inv.ok r hr).1.1.2.2) st
          rw [List.length_map] at hwl
          obtain ⟨hwl1, hwl2⟩ := hwl
          clear hfin hto htio HTW HB HR2
          go_wp2_with fail
          refine (every08_any z true HT2.out.trio HM.out.well.good ⟨hz1, hz2⟩ hal).mono ?_
          rintro e w3 ⟨v3, rfl, hrow3, hb3⟩
          rw [HTO.out.1] at hrow3
          have HT3 := hid (HT2.out.below hb3)
          have HF3 := hid (HFIN.out.below hb3)
          have HA3 := hid (own_base hrow3 (Nat.zero_le _))
          obtain ⟨va3, vc3, rfl⟩ := row_slice hrow3
          clear hrow3 hb3 HT2 HFIN
          go_wp2_with fail
          refine (every08_any z false HT3.out.trio HM.out.well.good ⟨hz1, hz2⟩ hal).mono ?_
          rintro e w4 ⟨v4, rfl, hrow4, hb4⟩
          rw [HTO.out.2] at hrow4
          have HT4 := hid (HT3.out.below hb4)
          have HF4 := hid (HF3.out.below hb4)
          have HA4 := hid (own_bel HA3.out hb4)
          have HB4 := hid (own_base hrow4 (Nat.zero_le _))
          obtain ⟨va4, vc4, rfl⟩ := row_slice hrow4
          clear hrow4 hb4 HT3 HF3 HA3
          go_wp2_with fail
          refine (paStable_any HT4.out.trio).mono ?_
          rintro e w' ⟨rfl, rfl⟩
          rw [HSTA.out]
          go_wp2_with fail
          refine (sameGot_eq HA4.out HF4.out.one (by omega)).mono ?_
          rintro e w5 ⟨rfl, n5, rfl⟩
          have HT5 := hid (HT4.out.below (bel_drewN _ _ n5))
          have HF5 := hid (HF4.out.below (bel_drewN _ _ n5))
          have HB5 := hid (own_bel HB4.out (bel_drewN _ _ n5))
          clear HT4 HF4 HA4 HB4
          generalize w4.drewN n5 = w5 at HT5 HF5 HB5 ⊢
          go_wp2_with fail
          refine (sameGot_eq HB5.out HF5.out.two (by omega)).mono ?_
          rintro e w6 ⟨rfl, n6, rfl⟩
          have HT6 := hid (HT5.out.below (bel_drewN _ _ n6))
          clear HT5 HF5 HB5
          generalize w5.drewN n6 = w6 at HT6 ⊢
          go_wp2_with fail
          refine (awake08_any _).mono ?_
          rintro e w7 ⟨rfl, hb7⟩
          have HB7 := hid (bel_next HT6.out.bel hb7)
          clear hb7
          go_wp2_with fail
          go_ret
          exact ⟨rfl, HB7.out⟩
    · obtain ⟨j, rfl⟩ : ∃ j, k = j + 1 := ⟨k - 1, by omega⟩
      obtain ⟨x, hx⟩ : ∃ x, rows[j]? = some x := ⟨_, List.getElem?_eq_getElem (by omega)⟩
      obtain ⟨g, rfl, hcl⟩ := HRR.out.at hx
      have r0 := hcl 0 _ rfl
      have r1 := hcl 1 _ rfl
      have r2 := hcl 2 _ rfl
      simp only [Nat.add_zero] at r0
      have hsd := stableR_drop (nx := A.next) hx
      have HSD := hid hsd
      clear hcl hx hsd
      obtain ⟨⟨yb, yf, ⟨yk, yp, ye, ys, yl⟩⟩, yB⟩ := x
      dsimp only at r0 r1 r2 HSD
      have ej : ((j + 1 : Nat) : Int) - 1 = (j : Int) := by omega
      rw [ej]
      have hj0 : (0 : Int) ≤ (j : Int) := by omega
      have hj1 : (j : Int) < (rows.length : Int) := by omega
      have hj2 : decide ((0 : Int) ≤ (j : Int)) = true := decide_eq_true hj0
      clear ej
      generalize hsv : stableR ((rows.drop (j + 1)).map RCell.r) A.next = sv0 at HSD ⊢
      clear hsv
      by_cases hk2 : yk = 2
      · subst hk2
        by_cases hf : yf = 0
        · subst hf
          have hsd := HSD.out
          rw [if_pos ⟨rfl, rfl⟩] at hsd
          have HSD2 := hid hsd
          clear hsd HSD
          go_wp2_with fail
          go_roundw
          case rel => exact ⟨j, by omega, by rfl, by rw [HSD2.out], trivial⟩
          case measure => simp [intOf]
        · have hf1 : decide (yf = 0) = false := decide_eq_false hf
          have hf2 : (yf == 0) = false := by simpa using hf
          have hsd := HSD.out
          rw [if_neg (fun h9 => hf h9.2)] at hsd
          have HSD2 := hid hsd
          clear hsd HSD hf
          go_wp2_with fail
          go_roundw
          case rel => exact ⟨j, by omega, by rfl, by rw [HSD2.out], trivial⟩
          case measure => simp [intOf]
      · have hk3 : decide (yk = 2) = false := decide_eq_false hk2
        have hk4 : (yk == 2) = false := by simpa using hk2
        have hsd := HSD.out
        rw [if_neg (fun h9 => hk2 h9.1)] at hsd
        have HSD2 := hid hsd
        clear hsd HSD hk2
        go_wp2_with fail
        go_roundw
        case rel => exact ⟨j, by omega, by rfl, by rw [HSD2.out], trivial⟩
        case measure => simp [intOf]
end Go.Proofs.YtgjkjkeeblbjlaaGreatDoor
