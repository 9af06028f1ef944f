/-
  PartLasts: the walk. No conditions but deeds and numbers that read.
-/
import Derived.Test.YtgjkjkeeblbjlaaGreatDoorLwQM
import Derived.Test.YtgjkjkeeblbjlaaGreatDoorLwCoBM
import Derived.Test.YtgjkjkeeblbjlaaGreatDoorGKM
import Derived.Deep.AppendLies
set_option maxRecDepth 100000
namespace Go.Proofs.YtgjkjkeeblbjlaaGreatDoor
open Go.RowKit

theorem keep_ways8 {w : World} {kv : Value} {keep : List Int} (h : InRow w kv keep.length 1 (keepCells keep)) :
    ∃ kad kcap keep2, kv = .slice kad keep.length kcap ∧ ((decide ((70 : Int) < (keep.length : Int)) = true ∧ keep2.length = 70 ∧ 70 ≤ kcap) ∨ (decide ((70 : Int) < (keep.length : Int)) = false ∧ keep2.length = keep.length)) ∧
      InRow w (.slice kad keep2.length kcap) keep2.length 1 (keepCells keep2) ∧ ∀ a m cap, (Value.slice kad keep2.length kcap) = .slice (some a) m cap → keepCells keep2 ≠ [] → a.block < w.heap.size := by
  obtain ⟨_, kad, kcap, rfl, g3, g4, g5⟩ := h
  have main : ∃ keep2 : List Int, ((decide ((70 : Int) < (keep.length : Int)) = true ∧ keep2.length = 70 ∧ 70 ≤ kcap) ∨ (decide ((70 : Int) < (keep.length : Int)) = false ∧ keep2.length = keep.length)) ∧
      InRow w (.slice kad keep2.length kcap) keep2.length 1 (keepCells keep2) := by
    by_cases h9 : 70 < keep.length
    · refine ⟨keep.take 70, .inl ⟨by simp; omega, by rw [List.length_take]; omega, by omega⟩, ?_⟩
      refine ⟨by simp [keepCells], kad, kcap, rfl, by rw [List.length_take]; omega, g4, fun j u hu => g5 j u ?_⟩
      unfold keepCells at hu ⊢
      rw [List.map_take] at hu
      have hlt := (List.getElem?_eq_some_iff.1 hu).1
      rw [List.getElem?_take_of_lt (by rw [List.length_take] at hlt; omega)] at hu
      exact hu
    · exact ⟨keep, .inr ⟨by simp; omega, rfl⟩, by simp [keepCells], kad, kcap, rfl, g3, g4, g5⟩
  obtain ⟨keep2, h1, h2⟩ := main
  refine ⟨kad, kcap, keep2, rfl, h1, h2, fun a m cap e hne => ?_⟩
  obtain ⟨_, ad', cap', e', _, _, h5⟩ := h2
  injection e with e _ _
  injection e' with e' _ _
  obtain ⟨u, hu⟩ : ∃ u, (keepCells keep2)[0]? = some u := by
    cases hc : keepCells keep2 with
    | nil => exact absurd hc hne
    | cons y l => exact ⟨y, rfl⟩
  obtain ⟨a', ha', hc'⟩ := h5 0 u hu
  rw [← e', e] at ha'
  injection ha' with ha'
  subst ha'
  have := World.block_lt_of_cell? w _ hc'
  unfold Addr.add at this
  simpa using this

theorem lawFuse8 (n : Int) : 0 ≤ (wrap64 (n.tmod 12 + 12)).tmod 12 ∧ (wrap64 (n.tmod 12 + 12)).tmod 12 ≤ 1000000 := by
  have h1 := Int.tmod_lt_of_pos n (show (0 : Int) < 12 by decide)
  have h2 : 0 ≤ n.tmod 12 + 12 := by have := Int.lt_tmod_of_pos n (show (0 : Int) < 12 by decide); omega
  have h3 := Int.tmod_nonneg 12 h2
  have h4 := Int.tmod_lt_of_pos (n.tmod 12 + 12) (show (0 : Int) < 12 by decide)
  rw [IntWalk.wrap64_in (n.tmod 12 + 12) (by omega)]
  omega

theorem own_front {w : World} {base : Nat} {e : TypeId} {size : Nat} {va : Option Addr} {n vc m : Nat} {xs : List Value} (h : w.ownsRow base e size (.slice va n vc) n xs) (hm : m ≤ n) (hz : va = none → n = m) : w.ownsRow base e size (.slice va m vc) m (xs.take (m * size)) := by
  obtain ⟨hl, h⟩ := h
  refine ⟨by rw [List.length_take, hl]; exact Nat.min_eq_left (Nat.mul_le_mul_right _ hm), ?_⟩
  rcases h with ⟨h1, h2⟩ | ⟨g, c, cur, hv, hg, hh, h3, h4, h5, h6⟩
  · injection h1 with h1 h7 h8
    subst h1 h8
    have := hz rfl
    exact .inl ⟨by rw [show m = 0 by omega], by omega⟩
  · injection hv with hv _ hc
    subst hv hc
    refine .inr ⟨g, vc, cur, rfl, hg, hh, by omega, h4, h5, ?_⟩
    rw [← h6, List.take_take, Nat.min_eq_left (Nat.mul_le_mul_right _ hm)]

theorem fr_setRow8b {S : Nat → Prop} {w : World} {p : Nat} {c : Array Value} (hp : S p) : Fr S w (w.setRow p c) :=
  ⟨rfl, rfl, rfl, by simp [World.setRow], fun k hk hn => by
    have hne : p ≠ k := fun e => hn (e ▸ hp)
    simp [World.setRow, Array.getElem?_modify, hne]⟩

def LSome (s : PPart) (l : List Ent) (A : ALog) (D : PDisk) (lb : PBat) : Prop := NGood paNotes2 1000 (s, l) A D ∨ (NDark paNotes2 1000 (QBat lb) (s, l) A D ∧ lb.ok ∧ (lb.kind = 1 ∨ lb.kind = 2))

structure LastPa (w wr : World) (p l d : Nat) (S SL SD : Nat → Prop) (s : PPart) (es : List Ent) (A : ALog) (D : PDisk) (k : Nat) (rv : Value) (rows : List RCell) (bx : Nat) (lb : PBat) (lB : Value) : Prop where
  trio : TrioIn (paThing p l) w wr l d S SL SD s A.toP D
  some : LSome s es A D lb
  len : es.length ≤ k
  row : wr.ownsRow w.heap.size 33 7 rv rows.length (rwsCells rows)
  rlen : rows.length ≤ k
  reads : ∀ x ∈ rows, x.reads w
  small : ∀ x ∈ rows, x.r.b.l.length ≤ 64 ∧ 0 ≤ x.r.base ∧ x.r.base ≤ 1099511627776
  data : es.filterMap dataE = (rows.map RCell.r).map fun r => (r.base, r.b)
  box : Blk wr bx #[.int .i64 lb.kind, .int .i64 lb.pid, .int .i64 lb.epoch, .int .i64 lb.seq, lB] 31
  far : w.heap.size ≤ bx
  recs : InRecs w lB lb.l
  few : lb.l.length ≤ 70

def LastRel8 (w : World) (p l d : Nat) (v : Value) (q : List PDCell) (bx : Nat) (rv j : Value) (wr : World) : Prop :=
  ∃ (k : Nat) (s : PPart) (es : List Ent) (A : ALog) (D : PDisk) (S SL SD : Nat → Prop) (rv1 : Value) (rows : List RCell) (lb : PBat) (lB : Value), k ≤ q.length ∧ j = .int .i64 k ∧ rv1 = rv ∧ LastPa w wr p l d S SL SD s es A D (40 + k) rv1 rows bx lb lB ∧
    wr.ownsRow w.heap.size 49 10 v q.length (pdsCells q)
def LastEnd8 (w : World) (p l d : Nat) (bx : Nat) (rv : Value) (wr : World) : Prop :=
  ∃ (s : PPart) (es : List Ent) (A : ALog) (D : PDisk) (S SL SD : Nat → Prop) (rv1 : Value) (rows : List RCell) (lb : PBat) (lB : Value), rv1 = rv ∧ LastPa w wr p l d S SL SD s es A D 80 rv1 rows bx lb lB

theorem LSome.small {s : PPart} {es : List Ent} {A : ALog} {D : PDisk} {lb : PBat} (h : LSome s es A D lb) (hk : lb.kind = 0) : NGood paNotes2 1000 (s, es) A D := by
  rcases h with h | ⟨_, _, h⟩
  · exact h
  · omega

theorem LSome.wf {s : PPart} {es : List Ent} {A : ALog} {D : PDisk} {lb : PBat} (h : LSome s es A D lb) : D.WF 1000 := by
  rcases h with h | ⟨h, _⟩
  · exact h.wf
  · exact h.wf

theorem deed_bat {w : World} {base : Nat} {g c : Nat} {q : List PDCell} (h : w.ownsRow base 49 10 (.slice (some ⟨g, 0, none⟩) q.length c) q.length (pdsCells q)) {k : Nat} {x : PDCell} (hx : q[k]? = some x) :
    w.cell? ⟨g, k * 10 + 4, none⟩ = some (.int .i64 x.d.b.kind) ∧ w.cell? ⟨g, k * 10 + 5, none⟩ = some (.int .i64 x.d.b.pid) ∧ w.cell? ⟨g, k * 10 + 6, none⟩ = some (.int .i64 x.d.b.epoch) ∧ w.cell? ⟨g, k * 10 + 7, none⟩ = some (.int .i64 x.d.b.seq) ∧ w.cell? ⟨g, k * 10 + 8, none⟩ = some x.B := by
  obtain ⟨g2, c2, hv, _, hcl⟩ := outPDeed h hx
  injection hv with hv _ _
  injection hv with hv
  injection hv with hv _ _
  subst hv
  exact ⟨hcl 4 _ rfl, hcl 5 _ rfl, hcl 6 _ rfl, hcl 7 _ rfl, hcl 8 _ rfl⟩

theorem lput3 {s : PPart} {es : List Ent} {A : ALog} {D : PDisk} (h : NGood paNotes2 1000 (s, es) A D) (b : PBat) :
    (∃ A' D', s.put A.toP D b = ⟨s.took b A.next, A'.toP, D', A.next, false, 0⟩ ∧ NGood paNotes2 1000 (s.took b A.next, es ++ [⟨A.next, b.len, b.lay⟩]) A' D' ∧ b.ok ∧ (b.kind = 1 ∨ b.kind = 2)) ∨
    (∃ A' D' n y c, s.put A.toP D b = ⟨s, A'.toP, D', n, y, c⟩ ∧ NGood paNotes2 1000 (s, es) A' D' ∧ (c ≠ 0 ∨ y = true) ∧ c ≠ 4) ∨
    (∃ A' D' n y, s.put A.toP D b = ⟨s, A'.toP, D', n, y, 4⟩ ∧ LSome s es A' D' b) := by
  have h1 := lput h b
  generalize s.put A.toP D b = r at h1
  cases h1 with
  | ok A' D' good hb hk => exact .inl ⟨A', D', rfl, good, hb, hk⟩
  | no A' D' n y c good why =>
    by_cases hc : c = 4
    · subst hc
      exact .inr (.inr ⟨A', D', n, y, rfl, .inl good⟩)
    · exact .inr (.inl ⟨A', D', n, y, c, rfl, good, why, hc⟩)
  | dark A' D' dark hb hk => exact .inr (.inr ⟨A', D', 0, false, rfl, .inr ⟨dark, hb, hk⟩⟩)

def WantRel8 (W1 : World) (rows : List RCell) (wv i : Value) (wr : World) : Prop :=
  ∃ (n : Nat) (v1 : Value), n ≤ rows.length ∧ i = .int .i64 n ∧ v1 = wv ∧ wr.ownsRow W1.heap.size 38 4 v1 (allP ((rows.take n).map RCell.r)).length (gotCells (allP ((rows.take n).map RCell.r))) ∧ Below W1.heap.size W1 wr
def WantIn8 (W1 : World) (rows : List RCell) (n : Nat) (x : RCell) (wv j : Value) (wr : World) : Prop :=
  ∃ (k : Nat) (v1 : Value), k ≤ x.r.b.l.length ∧ j = .int .i64 k ∧ v1 = wv ∧ wr.ownsRow W1.heap.size 38 4 v1 (allP ((rows.take n).map RCell.r) ++ recsAt x.r.base (x.r.b.l.take k)).length (gotCells (allP ((rows.take n).map RCell.r) ++ recsAt x.r.base (x.r.b.l.take k))) ∧ Below W1.heap.size W1 wr

theorem last_nums {W i wi an el n : Nat} (hwi : wi = W + i) (han : W + el = an) (hlt : i < el) (hel : el = n) (h6 : an ≤ 6000) :
    (0 : Int) ≤ (wi : Int) ∧ (wi : Int) < (an : Int) ∧ IntKind.i64.wrap ((wi : Int) - (W : Int)) = (wi : Int) - (W : Int) ∧ ((wi : Int) - (W : Int)).toNat = i ∧ (0 : Int) ≤ (wi : Int) - (W : Int) ∧ (wi : Int) - (W : Int) < (n : Int) ∧ wi < an ∧ i < n :=
  ⟨by omega, by omega, IntWalk.i64_in _ (by omega), by omega, by omega, by omega, by omega, by omega⟩
theorem last_at {P : List PRow} {ext : List PGot} {W i wi : Nat} {base : Int} {l : List PRec} {y : PRec} (hW : (allP P).length = W) (hb : ext = recsAt base l) (hwi : wi = W + i) (hy : l[i]? = some y) : (allP P ++ ext)[wi]? = some ⟨base + i, y⟩ := by
  rw [List.getElem?_append_right (by omega), hW, hwi, Nat.add_sub_cancel_left, hb]
  unfold recsAt
  rw [List.getElem?_mapIdx, hy]
  rfl
theorem last_front {w : World} {base : Nat} {aa : Option Addr} {an ac W : Nat} {P : List PRow} {ext : List PGot} (h : w.ownsRow base 38 4 (.slice aa an ac) an (gotCells (allP P ++ ext))) (hW : (allP P).length = W) (han : W + ext.length = an) :
    w.ownsRow base 38 4 (.slice aa W ac) W (gotCells (allP P)) := by
  have hf := own_front h (m := W) (by omega) (fun h9 => by
    rcases Joins.ownsRow_forms h with ⟨_, hz⟩ | ⟨g9, cp9, h8⟩
    · omega
    · injection h8 with h8
      rw [h9] at h8
      cases h8)
  have hgc : (gotCells (allP P ++ ext)).take (W * 4) = gotCells (allP P) := by
    rw [gotCells_app]
    have hl : (gotCells (allP P)).length = W * 4 := by rw [gotCells_len, hW]
    rw [← hl]
    exact List.take_left
  rw [hgc] at hf
  exact hf
theorem last_cell {wi an : Nat} (h : wi < an) : wi * 4 + 1 < an * 4 ∧ wi * 4 + 2 < an * 4 ∧ wi * 4 + 3 < an * 4 := by omega

set_option maxHeartbeats 40000000 in
theorem partLasts_any {w : World} {v v2 kv : Value} {l l2 : List PDeed} {keep : List Int} (n : Int) (h : InPDeeds w v l) (h2 : InPDeeds w v2 l2) (hk : InRow w kv keep.length 1 (keepCells keep)) :
    Calls Tryz.prog 7 #[v, .int .i64 n, v2, kv] w (AwakePost8 w) := by
  obtain ⟨kad, kcap, keep2, rfl, hways, hkr, hap⟩ := keep_ways8 hk
  obtain ⟨i1, hi1, hy0, hy1, hy2⟩ := info_parts Tryz.infoGot
  obtain ⟨i2, hi2, hz0, hz1, hz2⟩ := info_parts Tryz.infoPRow
  have HI := hid h
  have HI2 := hid h2
  have HWAYS := hid hways
  have HKR := hid hkr
  have HAP := hid hap
  clear h h2 hk hways hkr hap
  go_enter Tryz.func7, Tryz.ntmps7
  go_wp2_with fail
  refine (made08_any HI.out).mono ?_
  rintro e w1 ⟨p, ll, d, S, SL, SD, s, A, D, rv, rows, rfl, hm⟩
  have HM := hid hm
  have hz := lawFuse8 n
  clear hm HI
  go_upto_region 4 with fail
  go_wp2_with fail
  generalize (wrap64 (n.tmod 12 + 12)).tmod 12 = z at hz ⊢
  refine (fuse_any d SD D z _ HM.out.trio.trio.disk).mono ?_
  rintro e w3 ⟨rfl, hto⟩
  have hto2 := HM.out.trio.trio.disk_to hto
  have hr3 := HM.out.trio.trio.typed hto2 HM.out.row (paOther p ll).2.1.x (paOther p ll).2.1.y
  obtain ⟨S3, SL3, SD3, ht3⟩ := HM.out.trio.call hto2
  have HT3 := hid ht3
  have HR3 := hid hr3
  have HG3 := hid (HM.out.well.good.pair.fused8 hz.1 hz.2)
  clear hto hto2 hr3 ht3 hz
  generalize ({ D with fuse := max z (-1) } : PDisk) = D0 at HT3 HG3
  go_wp2_with fail
  refine (few08_any HT3.out.bel HI2.out).mono ?_
  rintro e w4 ⟨v4, rfl, hout, hb4⟩
  obtain ⟨q, hrow4, hfq⟩ := fewQ_of hout
  have hszb := HT3.out.bel.size
  have HT4 := hid (HT3.out.below hb4)
  have HR4 := hid (own_bel HR3.out hb4)
  have HD4 := hid (own_base hrow4 hszb)
  have hrd : ∀ x ∈ q, x.d.b.light = true := hfq.light
  have hq40 := hfq.len
  have hall : ∀ x ∈ q, InRecs w x.B x.d.b.l := fun x hx => (hfq.reads x hx).1
  have HLI := hid hrd
  have HALL := hid hall
  obtain ⟨va, vc, rfl⟩ := row_slice hrow4
  clear hrow4 hall hb4 hout hfq hrd HI2 HT3 HR3 hszb
  go_upto_block 0 with fail
  have hk5 := Blk.new w4 #[.int .i64 0, .int .i64 0, .int .i64 0, .int .i64 0, .slice none 0 0] 31
  have hbx5 : w.heap.size ≤ w4.heap.size := HT4.out.bel.size
  have hlast : LastPa w (w4.alloc (.cells #[.int .i64 0, .int .i64 0, .int .i64 0, .int .i64 0, .slice none 0 0] 31)) p ll d S3 SL3 SD3 s A.all A D0 40 rv rows w4.heap.size PBat.empty (.slice none 0 0) :=
    ⟨HT4.out.below (bel_alloc (Below.refl _ _) _), .inl HG3.out, HM.out.len, HR4.out.alloc _, HM.out.rlen, HM.out.reads, fun x hx => (by
      have h9 := HM.out.inv.ok x.r (List.mem_map_of_mem hx)
      have h8 := (next_small HM.out.well.good HM.out.len).2
      have h7 := x.r.b.len1
      exact ⟨h9.1.1.2.2, h9.2.2.1, by omega⟩), HM.out.inv.data, hk5, hbx5, recs_nil w, by decide⟩
  have HL5 := hid hlast
  have HD5 := hid (HD4.out.alloc (.cells #[.int .i64 0, .int .i64 0, .int .i64 0, .int .i64 0, .slice none 0 0] 31))
  clear hlast hk5 hbx5 HM HG3 HT4 HR4 HD4
  generalize w4.alloc (.cells #[.int .i64 0, .int .i64 0, .int .i64 0, .int .i64 0, .slice none 0 0] 31) = w5 at HL5 HD5 ⊢
  generalize w4.heap.size = bx at HL5 ⊢
  generalize PBat.empty = lb0 at HL5
  go_cut [11, 14] (fun rv _ wx => LastEnd8 w p ll d bx rv wx)
  case first =>
    go_wp2_with fail
    go_loopw [11, 14] (fun rv j wr => LastRel8 w p ll d (.slice va q.length vc) q bx rv j wr) (fun _ j _ => q.length - (intOf j).toNat)
    case atStart => exact ⟨0, s, A.all, A, D0, S3, SL3, SD3, _, rows, lb0, _, Nat.zero_le _, rfl, rfl, HL5.out, HD5.out⟩
    case round =>
      clear HL5 HD5
      obtain ⟨k, s, es, A, D, S, SL, SD, rv, rows, lb, lB, hk, rfl, rfl, hm, hrow⟩ := hrel
      have HM := hid hm
      have HROW := hid hrow
      have k0 := hm.box.cell (i := 0) (v := .int .i64 lb.kind) rfl
      have HEND : Hid (LastEnd8 w p ll d bx rv wr) := hid ⟨s, es, A, D, S, SL, SD, rv, rows, lb, lB, rfl, ⟨hm.trio, hm.some, by have := hm.len; omega, hm.row, by have := hm.rlen; omega, hm.reads, hm.small, hm.data, hm.box, hm.far, hm.recs, hm.few⟩⟩
      have hrl80 : rows.length ≤ 80 := by have := hm.rlen; omega
      clear hm hrow
      by_cases hlt : k < q.length
      · by_cases hlk : lb.kind = 0
        · have HG := hid (HM.out.some.small hlk)
          rw [hlk] at k0
          obtain ⟨x, hx⟩ : ∃ x, q[k]? = some x := ⟨_, List.getElem?_eq_getElem hlt⟩
          have hmx := List.mem_of_getElem? hx
          have hrec := HALL.out x hmx
          have hl70 := light_len (HLI.out x hmx)
          obtain ⟨xd, xB, xK⟩ := x
          obtain ⟨xk, xn, xe, xy, xb, xkeep⟩ := xd
          obtain ⟨bk, bp, be, bs', bl⟩ := xb
          simp only at hrec hl70
          obtain ⟨ba, bc, rfl, _, _⟩ := hrec.form
          have HX := hid hx
          obtain ⟨g, cap, hve, hgl, hcells⟩ := outPDeed HROW.out hx
          injection hve with e1 e2 e3
          subst e1 e3
          obtain ⟨d4, d5, d6, d7, d8⟩ := deed_bat HROW.out hx
          have HREC := hid hrec
          have HLT := hid hl70
          clear hx hcells e2 hrec hl70 hmx hlk
          have hk0i : (0 : Int) ≤ (k : Int) := by omega
          have hk1i : (k : Int) < (q.length : Int) := by omega
          go_wp2_with fail
          refine (paPut_any (N := 1000) ⟨bk, bp, be, bs', bl⟩ (.slice ba bl.length bc) HM.out.trio.trio (paSmall_of HG.out.unpair.1) (fun _ => HG.out.unpair.1) (HREC.out.below HM.out.trio.bel) (fun r hr => by have := HLT.out.2 r hr; omega) (by have := HLT.out.1; dsimp only; omega)).mono ?_
          rintro e w2 ⟨rfl, hto⟩
          have hr2 := HM.out.trio.trio.typed hto HM.out.row (paOther p ll).2.1.x (paOther p ll).2.1.y
          have hd2 := HM.out.trio.trio.typed hto HROW.out (paOther p ll).1.x (paOther p ll).1.y
          have hk2 := HM.out.trio.trio.blk hto HM.out.box (paOther p ll).2.2.2.x (paOther p ll).2.2.2.y
          obtain ⟨S2, SL2, SD2, ht2⟩ := HM.out.trio.call hto
          have hlp := lput3 HG.out ⟨bk, bp, be, bs', bl⟩
          have HR2 := hid hr2
          have HD2 := hid hd2
          have HK2 := hid hk2
          clear hr2 hd2 hk2 hto d4 d5 d6 d7 d8 k0 HROW HEND
          generalize s.put A.toP D ⟨bk, bp, be, bs', bl⟩ = r at hlp ht2 ⊢
          have hnx0 := HG.out.next0
          have hnx1 := HG.out.inv.top
          rcases hlp with ⟨A', D', rfl, good, hb, hkd⟩ | ⟨A', D', nn, y, c, rfl, good, why, hc4⟩ | ⟨A', D', nn, y, rfl, hsome⟩
          · have HT2 := hid ht2
            have HG2 := hid good
            have HBK := hid hb
            have HKD := hid hkd
            clear ht2 good hb hkd
            dsimp only at HT2 ⊢
            obtain ⟨d4, d5, d6, d7, d8⟩ := deed_bat HD2.out HX.out
            go_wp2_with (first
              | (at_builtin; refine wpList_append_own _ rfl _ _ 25 rfl w.heap.size 33 i2 (.agg #[.int .i64 0, .int .i64 0, .int .i64 0, .int .i64 0, .int .i64 0, .int .i64 0, .slice none 0 0]) 7 72 Tryz.underlying25 hi2 hz0 hz1 hz2 rfl (by decide) _ _ _ rfl (HR2.out.alloc _) ⟨w2.heap.size, 0, none⟩ 1 1 [.int .i64 A.next, .int .i64 0, .int .i64 bk, .int .i64 bp, .int .i64 be, .int .i64 bs', .slice ba bl.length bc] rfl rfl (fun j u hj => by rw [Addr.add_lit, Nat.zero_add]; exact (Blk.new w2 _ _).cell (by simpa using hj)) (by simp [Value.oneCell']) (by unfold maxLen; omega) (by omega) (by have := HT2.out.bel.size; simp; omega) ?_))
            intro v' w4 hown1 hgrow _
            have ht4 := ((HT2.out.below (bel_alloc (Below.refl _ w2) _)).grown (HR2.out.alloc _) (Nat.le_refl _) (paOther p ll).2.1 hgrow)
            have hd4 := row_byGrown (HD2.out.alloc _) (HR2.out.alloc _) (by decide) hgrow
            have hk4 := (HK2.out.alloc (.cells #[.int .i64 A.next, .int .i64 0, .int .i64 bk, .int .i64 bp, .int .i64 be, .int .i64 bs', .slice ba bl.length bc] 33)).grown hgrow (blk_off HK2.out HR2.out (by decide))
            have HT4 := hid ht4
            have HD4 := hid hd4
            have HK4 := hid hk4
            have HO4 := hid hown1
            clear ht4 hd4 hk4 hown1 hgrow d4 d5 d6 d7 d8
            have hb64 := HBK.out.1.2.2
            dsimp only at hb64
            go_wp2_with fail
            go_roundw
            case rel => exact ⟨k + 1, _, _, A', D', S2, SL2, SD2, v', rows ++ [⟨⟨A.next, 0, ⟨bk, bp, be, bs', bl⟩⟩, .slice ba bl.length bc⟩], lb, lB, by omega, by go_num, rfl, ⟨HT4.out, .inl HG2.out, by rw [List.length_append]; have := HM.out.len; simp; omega, by rw [List.length_append, rwsCells_app]; exact HO4.out, by rw [List.length_append]; have := HM.out.rlen; simp; omega, fun x hx => (by rcases List.mem_append.1 hx with hx | hx; exact HM.out.reads x hx; rw [List.mem_singleton] at hx; subst hx; exact HREC.out), fun x hx => (by rcases List.mem_append.1 hx with hx | hx; exact HM.out.small x hx; rw [List.mem_singleton] at hx; subst hx; exact ⟨hb64, hnx0, hnx1⟩), by rw [List.filterMap_append, HM.out.data, List.map_append, List.map_append, List.filterMap_cons, dataE_lay HBK.out, if_pos (by have := HKD.out; dsimp only at this ⊢; omega)]; rfl, HK4.out, HM.out.far, HM.out.recs, HM.out.few⟩, HD4.out⟩
            case measure => simp [intOf]; omega
          · have HT2 := hid ht2
            have HG2 := hid good
            have hc5 : decide (c = 4) = false := decide_eq_false hc4
            have hc6 : (c == 4) = false := by simpa using hc4
            clear ht2 good hc4
            dsimp only at HT2 ⊢
            have hcc : (c = 0 ∧ y = true) ∨ ((c != 0) = true ∧ decide (c = 0) = false ∧ (c == 0) = false) := by
              by_cases hc : c = 0
              · exact .inl ⟨hc, why.resolve_left (fun h9 => h9 hc)⟩
              · exact .inr ⟨by simpa using hc, decide_eq_false hc, by simpa using hc⟩
            clear why
            rcases hcc with ⟨rfl, rfl⟩ | ⟨hc1, hc2, hc3⟩
            all_goals (
              go_wp2_with fail
              go_roundw
              case rel => exact ⟨k + 1, s, es, A', D', S2, SL2, SD2, _, rows, lb, lB, by omega, by go_num, rfl, ⟨HT2.out, .inl HG2.out, by have := HM.out.len; omega, HR2.out, by have := HM.out.rlen; omega, HM.out.reads, HM.out.small, HM.out.data, HK2.out, HM.out.far, HM.out.recs, HM.out.few⟩, HD2.out⟩
              case measure => simp [intOf]; omega)
          · have HT2 := hid ht2
            have HG2 := hid hsome
            clear ht2 hsome
            dsimp only at HT2 ⊢
            obtain ⟨d4, d5, d6, d7, d8⟩ := deed_bat HD2.out HX.out
            have hiB : (Tryz.prog.info? 31).map (·.size) = some (#[.int .i64 bk, .int .i64 bp, .int .i64 be, .int .i64 bs', .slice ba bl.length bc] : Array Value).size := by kernel_rfl
            have HIB := hid hiB
            have HKX := hid HK2.out
            have hfr : Fr (fun k => k = bx) w2 (w2.setRow bx #[.int .i64 bk, .int .i64 bp, .int .i64 be, .int .i64 bs', .slice ba bl.length bc]) := fr_setRow8b rfl
            have hap1 := HT2.out.trio.not HK2.out (paOther p ll).2.2.2.x (paOther p ll).2.2.2.y
            have HT3 := hid (HT2.out.frames hfr (fun k hk => by subst hk; exact HM.out.far) (fun k hk e => by subst e; exact hap1 hk))
            have hk3 : Blk (w2.setRow bx #[.int .i64 bk, .int .i64 bp, .int .i64 be, .int .i64 bs', .slice ba bl.length bc]) bx #[.int .i64 bk, .int .i64 bp, .int .i64 be, .int .i64 bs', .slice ba bl.length bc] 31 := setRow_heap _ _ _ _ _ _ HK2.out
            have HK3 := hid hk3
            have HR3 := hid (row_fr HR2.out hfr (fun k hk e => by subst e; exact blk_off HK2.out HR2.out (by decide) hk))
            have HD3 := hid (row_fr HD2.out hfr (fun k hk e => by subst e; exact blk_off HK2.out HD2.out (by decide) hk))
            clear hiB hfr hap1 hk3
            go_wp2_with (first
              | (refine wpList_plain rfl (fun K hK => wp_store_row 31 _ _ rfl bx #[.int .i64 bk, .int .i64 bp, .int .i64 be, .int .i64 bs', .slice ba bl.length bc] rfl rfl 31 _ HKX.out HIB.out rfl (by simp [Value.oneCell']) (hK _ _ ?_))))
            go_roundw
            case rel => exact ⟨k + 1, s, es, A', D', S2, SL2, SD2, _, rows, ⟨bk, bp, be, bs', bl⟩, .slice ba bl.length bc, by omega, by go_num, rfl, ⟨HT3.out, HG2.out, by have := HM.out.len; omega, HR3.out, by have := HM.out.rlen; omega, HM.out.reads, HM.out.small, HM.out.data, HK3.out, HM.out.far, HREC.out, HLT.out.1⟩, HD3.out⟩
            case measure => simp [intOf]; omega
        · have n1 : decide (lb.kind = 0) = false := decide_eq_false hlk
          have n2 : (lb.kind == 0) = false := by simpa using hlk
          clear hlk
          go_wp2_with fail
          go_meet
          exact HEND.out
      · obtain rfl : k = q.length := by omega
        clear hlt
        go_wp2_with fail
        go_meet
        exact HEND.out
  case rest =>
    clear HL5 HD5 HALL HLI hq40
    obtain ⟨s, es, A, D, S, SL, SD, rv, rows, lb, lB, rfl, hm⟩ := hcut
    obtain ⟨A3, D3, s3, a1, a2, a3, a4⟩ := lasts_again hm.some hm.data keep2
    rename World => wm
    obtain ⟨ra, rcap, rfl⟩ := row_slice hm.row
    have hext : ∃ ext, s3.toldAll false A3 = allP (rows.map RCell.r) ++ ext ∧ (ext = [] ∨ ∃ base, ext = recsAt base lb.l) := by
      rcases a4 with a4 | ⟨base, a4⟩
      · exact ⟨[], by rw [a4, List.append_nil], .inl rfl⟩
      · exact ⟨_, a4, .inr ⟨base, rfl⟩⟩
    obtain ⟨ext, htold, hex⟩ := hext
    have HM := hid hm
    have HA1 := hid a1
    have HG3 := hid a2
    have HTOLD := hid htold
    have HEX := hid hex
    have hl3 : A3.all.length ≤ 300 := by have := hm.len; omega
    have hrl80 := hm.rlen
    have hlb70 := hm.few
    have HWF := hid hm.some.wf
    have hwl := (want_len (l := rows.map RCell.r) (fun r hr => by obtain ⟨y, hy, rfl⟩ := List.mem_map.1 hr; exact (hm.small y hy).1) 0).2
    rw [List.length_map] at hwl
    have hxl : ext.length ≤ 70 := by
      rcases hex with h9 | ⟨base, h9⟩
      · rw [h9]; simp
      · rw [h9, recs_len]; exact hlb70
    clear hm a1 a2 a3 a4 htold hex
    go_upto_if 90 with fail
    go_cut [3] (fun kv wx => kv = .slice kad keep2.length kcap ∧ wx = wm)
    case first =>
      rcases HWAYS.out with ⟨hlt, hl70, hk70⟩ | ⟨hlt, hl70⟩
      all_goals
        rw [hlt]
        have HL := hid hl70
        clear hl70 hlt
        go_wp2_with fail
        go_meet
        exact ⟨by rw [HL.out], rfl⟩
    case rest =>
      obtain ⟨hkv, hwx⟩ := hcut
      subst hkv
      subst hwx
      rename World => wm
      clear HWAYS
      go_wp2_with fail
      refine (crash_any d SD D 1000 _ keep2 _ HM.out.trio.trio.disk HWF.out (inRow_below8 HKR.out HM.out.trio.bel) (fun a m cap e hne hs => by have h1 := HAP.out a m cap e hne; have h2 := HM.out.trio.sd _ hs; omega)).mono ?_
      rintro e w8 ⟨rfl, hto⟩
      have hto2 := HM.out.trio.trio.disk_to hto
      have hr8 := HM.out.trio.trio.typed hto2 HM.out.row (paOther p ll).2.1.x (paOther p ll).2.1.y
      have hk8 := HM.out.trio.trio.blk hto2 HM.out.box (paOther p ll).2.2.2.x (paOther p ll).2.2.2.y
      obtain ⟨S8, SL8, SD8, ht8⟩ := HM.out.trio.call hto2
      have HT8 := hid ht8
      have HR8 := hid hr8
      have HK8 := hid hk8
      clear hto hto2 hr8 hk8 ht8 HKR HAP
      go_wp2_with fail
      refine (paOpen_good (N := 1000) HT8.out.trio.disk (HWF.out.crash keep2) HA1.out HG3.out).mono ?_
      rintro e w9 ⟨p9, l9, S9, SL9, SD9, rfl, ht9, hfr9, hs9, hsl9, hsd9⟩
      have hsz8 := HT8.out.bel.size
      have ht9i : TrioIn (paThing p9 l9) w w9 l9 d S9 SL9 SD9 s3 A3.toP D3 := by
        refine ⟨ht9, HT8.out.bel.trans (hfr9.to_below hsz8 (fun k hk h9 => by have := HT8.out.sd k h9; omega)), fun k hk => ?_, fun k hk => ?_, fun k hk => ?_⟩
        · have := hs9 k hk; omega
        · have := hsl9 k hk; omega
        · rcases hsd9 k hk with h9 | h9
          · exact HT8.out.sd k h9
          · omega
      have HR9 := hid (row_fr HR8.out hfr9 (fun k hk hsd => HT8.out.trio.apartT HR8.out (paOther p ll).2.1 k (.inr (.inr hsd)) hk))
      have HK9 := hid (HK8.out.fr hfr9 (fun h9 => HT8.out.trio.disk.other HK8.out (by decide) (by decide) h9))
      have HT9 := hid ht9i
      clear ht9 hfr9 hs9 hsl9 hsd9 ht9i HT8 HR8 HK8 hsz8
      go_wp2_with fail
      refine (every08_any 9 false HT9.out.trio HG3.out (by decide) hl3).mono ?_
      rintro e W1 ⟨v10, rfl, hrow10, hb10⟩
      rw [HTOLD.out] at hrow10
      have HT10 := hid (HT9.out.below hb10)
      have HK10 := hid (HK9.out.below' hb10)
      have HRR := hid (RowRd.mk (own_bel HR9.out hb10) (fun x hx => (HM.out.reads x hx).below (bel_next HT9.out.bel hb10)))
      have HA10 := hid (own_base hrow10 (Nat.zero_le _))
      obtain ⟨aa, ac, rfl⟩ := row_slice hrow10
      have hal : (allP (rows.map RCell.r) ++ ext).length = (allP (rows.map RCell.r)).length + ext.length := List.length_append
      have hacl : (allP (rows.map RCell.r)).length + ext.length ≤ ac := by
        rcases hrow10.2 with ⟨h9, h8⟩ | ⟨g9, cp9, cur9, h9, _, _, h7, _⟩
        · injection h9 with _ h9 h10
          omega
        · injection h9 with _ _ h9
          omega
      rw [hal] at HA10 ⊢
      have hst0 := HT10.out.bel.size
      clear hrow10 hb10 HT9 HK9 HR9 hal
      go_wp2_with fail
      go_loopw [22, 23] (fun wv i wx => WantRel8 W1 rows wv i wx) (fun _ i _ => rows.length - (intOf i).toNat)
      case atStart => exact ⟨0, _, Nat.zero_le _, rfl, rfl, World.ownsRow_nil _ _ _ _, Below.refl _ _⟩
      case round =>
        rename World => wx
        obtain ⟨n, v1, hn, rfl, rfl, hwr, hb⟩ := hrel
        have HWR := hid hwr
        have HB := hid hb
        clear hwr hb
        by_cases hlt : n < rows.length
        · obtain ⟨x, hx⟩ : ∃ x, rows[n]? = some x := ⟨_, List.getElem?_eq_getElem hlt⟩
          have hmx := List.mem_of_getElem? hx
          obtain ⟨hx64, hxb0, hxb1⟩ := HM.out.small x hmx
          have HAT := hid (all_take hx)
          have HX := hid hx
          have HMX := hid hmx
          have hwl2 := (want_len (l := (rows.take n).map RCell.r) (fun r hr => by obtain ⟨y, hy, rfl⟩ := List.mem_map.1 hr; exact (HM.out.small y (List.mem_of_mem_take hy)).1) 0).2
          rw [List.length_map, List.length_take] at hwl2
          clear hx hmx
          have hn0 : (0 : Int) ≤ (n : Int) := by omega
          have hn1 : (n : Int) < (rows.length : Int) := by omega
          have hn2 : decide ((n : Int) < (rows.length : Int)) = true := decide_eq_true hn1
          go_wp2_with fail
          go_loopw [22, 24] (fun wv j wy => WantIn8 W1 rows n x wv j wy) (fun _ j _ => x.r.b.l.length - (intOf j).toNat)
          case atStart => exact ⟨0, _, Nat.zero_le _, rfl, rfl, by simpa [recsAt] using HWR.out, HB.out⟩
          case round =>
            rename World => wy
            clear HWR HB
            obtain ⟨k, v1, hk, rfl, rfl, hwr, hb⟩ := hrel
            have HB := hid hb
            have HR2 := hid (HRR.out.below hb)
            have hszb := hb.size
            clear hb
            obtain ⟨g, rfl, hcl⟩ := HR2.out.at HX.out
            have r0 := hcl 0 _ rfl
            have r6 : wy.cell? ⟨g, n * 7 + 2 + 4, none⟩ = some x.B := hcl 6 _ rfl
            simp only [Nat.add_zero] at r0
            have hrec := HR2.out.reads x HMX.out
            obtain ⟨ba, bc, hB, _, _⟩ := hrec.form
            rw [hB] at r6 hrec
            have HBV := hid hB
            have HREC := hid hrec
            clear hcl hrec hB
            by_cases hkl : k < x.r.b.l.length
            · obtain ⟨y, hy⟩ : ∃ y, x.r.b.l[k]? = some y := ⟨_, List.getElem?_eq_getElem hkl⟩
              obtain ⟨a, rfl, y0, y1, y2⟩ := HREC.out.at hy
              have HRT := hid (recsAt_take (base := x.r.base) hy)
              have HY := hid hy
              clear hy
              have hrl := recs_len (base := x.r.base) (l := x.r.b.l.take k)
              rw [List.length_take, Nat.min_eq_left (by omega)] at hrl
              obtain ⟨acc, hacc⟩ : ∃ acc, allP ((rows.take n).map RCell.r) ++ recsAt x.r.base (x.r.b.l.take k) = acc := ⟨_, rfl⟩
              have hacl2 : acc.length ≤ 6000 := by rw [← hacc, List.length_append, hrl]; omega
              rw [hacc] at hwr
              have HWR := hid hwr
              have HACC := hid hacc
              clear hrl hacc hwr
              obtain ⟨c0, c1, c2⟩ := y
              dsimp only at y0 y1 y2
              have hk0 : (0 : Int) ≤ (k : Int) := by omega
              have hk1 : (k : Int) < (x.r.b.l.length : Int) := by omega
              have hk2 : decide ((k : Int) < (x.r.b.l.length : Int)) = true := decide_eq_true hk1
              have hw1 : wrap64 (x.r.base + (k : Int)) = x.r.base + k := IntWalk.wrap64_in _ (by omega)
              have hw2 : IntKind.i64.wrap (x.r.base + (k : Int)) = x.r.base + k := IntWalk.i64_in _ (by omega)
              go_upto_region 31 with fail
              refine wp_region_last (fun w' => w'.cell? ⟨g, n * 7, none⟩ = some (.int .i64 x.r.base) ∧ w'.cell? ⟨g, n * 7 + 2 + 4, none⟩ = some (.slice (some a) x.r.b.l.length bc) ∧ w'.cell? (a.add (k * 3)) = some (.int .i64 c0) ∧ w'.cell? ⟨(a.add (k * 3)).block, (a.add (k * 3)).off + 1, none⟩ = some (.int .i64 c1) ∧ w'.cell? ⟨(a.add (k * 3)).block, (a.add (k * 3)).off + 2, none⟩ = some (.string (bs c2))) 20 [18, 19] [0, 1, 2, 3, 4, 5, 6, 7, 8, 9, 10, 11, 12, 13, 14, 15, 16, 17, 18, 19] (by kernel_rfl) (by kernel_rfl) (fun _ _ _ _ _ h => h) (by exact ⟨r0, r6, y0, y1, y2⟩) (fun hHeld => ?_)
              iterate 18
                refine last_take (v := ?_) rfl (by kernel_rfl) (by kernel_rfl) ?_ ?_
                rotate_left
                focus
                  intro w' hSw
                  try dsimp only at hSw
                  go_simp <;> with_reducible rfl
                simp only [Act.put, List.setIfInBounds_toArray]
              refine last_law rfl (by kernel_rfl) (by kernel_rfl) (fun K hK => ?_)
              go_simp
              refine hK.out _ _ (by obtain ⟨h0, h1, h2, h3, h4⟩ := hHeld; exact ⟨Lib.cell?_alloc_some _ h0, Lib.cell?_alloc_some _ h1, Lib.cell?_alloc_some _ h2, Lib.cell?_alloc_some _ h3, Lib.cell?_alloc_some _ h4⟩) (fun hHeld => ?_)
              clear hK K
              try simp only [Act.put, List.setIfInBounds_toArray, List.set_cons_zero, List.set_cons_succ]
              refine last_law rfl (by kernel_rfl) (by kernel_rfl) (fun K hK => ?_)
              refine wp_append_lies _ _ _ 34 (by rfl) W1.heap.size 38 i1 _ 4 40 Tryz.underlying34 hi1 hy0 hy1 hy2 rfl (by omega) v1 acc.length (gotCells acc) (by rfl) (HWR.out.alloc _).drew ⟨wy.heap.size, 0, none⟩ 1 1 [.int .i64 (x.r.base + k), .int .i64 c0, .int .i64 c1, .string (bs c2)] (by rfl) (by rfl) (fun j u hj => by rw [Addr.add_lit, Nat.zero_add]; exact (Blk.new wy _ _).drew.cell (by simpa using hj)) (by simp [Value.oneCell']) (by omega) (by unfold maxLen; omega) (by omega) (by simp; omega) (wy.heap.size + 1) (by simp) ?_
              intro gg cap7 w7 hown7 hgrow7 _ _
              have hb7 := bel_append (bel_alloc HB.out _).drew (HWR.out.alloc _).drew (by simp; omega) hgrow7
              have hr7 := HRR.out.below hb7
              obtain ⟨g7, hg7, hcl7⟩ := hr7.at HX.out
              injection hg7 with hg7
              injection hg7 with hg7 _ _
              subst hg7
              have s0 : w7.cell? ⟨g, n * 7, none⟩ = some (.int .i64 x.r.base) := hcl7 0 _ rfl
              have s6 : w7.cell? ⟨g, n * 7 + 2 + 4, none⟩ = some (.slice (some a) x.r.b.l.length bc) := (hcl7 6 _ rfl).trans (by rw [HBV.out])
              have hrec7 := hr7.reads x HMX.out
              rw [HBV.out] at hrec7
              obtain ⟨a7, ha7, t0, t1, t2⟩ := hrec7.at HY.out
              injection ha7 with ha7
              subst ha7
              have HOWN7 := hid hown7
              have HB7 := hid hb7
              clear hown7 hgrow7 hb7 hr7 hcl7 hrec7
              refine hK.out _ _ (by exact ⟨s0, s6, t0, t1, t2⟩) (fun hHeld => ?_)
              clear hK K
              try simp only [Act.put, List.setIfInBounds_toArray]
              refine last_step rfl (by kernel_rfl) (fun K hK => ?_)
              go_simp
              refine hK _ _ ?_
              clear hK K
              try simp only [Act.put, List.setIfInBounds_toArray, List.set_cons_zero, List.set_cons_succ]
              have hfin : w7.ownsRow W1.heap.size 38 4 (.slice (some ⟨gg, 0, none⟩) (acc.length + 1) cap7) (allP ((rows.take n).map RCell.r) ++ recsAt x.r.base (x.r.b.l.take (k + 1))).length (gotCells (allP ((rows.take n).map RCell.r) ++ recsAt x.r.base (x.r.b.l.take (k + 1)))) := by
                rw [HRT.out, ← List.append_assoc, HACC.out, List.length_append, gotCells_app]
                have e : gotCells [⟨x.r.base + k, ⟨c0, c1, c2⟩⟩] = [.int .i64 (x.r.base + k), .int .i64 c0, .int .i64 c1, .string (bs c2)] := by unfold gotCells PGot.cells; simp
                rw [e]
                exact HOWN7.out
              have HFIN := hid hfin
              clear hfin hHeld s0 s6 t0 t1 t2 r0 r6 y0 y1 y2 HOWN7 hw1 hw2
              go_wp2_with fail
              go_roundw
              case rel => exact ⟨k + 1, _, by omega, by go_num, rfl, HFIN.out, HB7.out⟩
              case measure => simp [intOf]; omega
            · obtain rfl : k = x.r.b.l.length := by omega
              rw [List.take_length, ← HAT.out] at hwr
              have HFIN := hid hwr
              clear hwr
              go_wp2_with fail
              go_roundw
              case rel => exact ⟨n + 1, _, by omega, by go_num, rfl, HFIN.out, HB.out⟩
              case measure => simp [intOf]; omega
        · obtain rfl : n = rows.length := by omega
          rw [List.take_length] at HWR
          have HT11 := hid (HT10.out.below HB.out)
          have HA11 := hid (own_bel HA10.out HB.out)
          have hk11 := HK10.out.below' HB.out
          have hrl9 : InRecs wx lB lb.l := HM.out.recs.below HT11.out.bel
          obtain ⟨lba, lbc, hlB, _, _⟩ := hrl9.form
          rw [hlB] at hk11 hrl9
          have HK11 := hid hk11
          have HREC := hid hrl9
          obtain ⟨v1a, v1c, rfl⟩ := row_slice HWR.out
          clear HT10 HA10 HK10 HRR HB hk11 hrl9 hlB HG3 HA1 HWF HTOLD
          obtain ⟨W, hW⟩ : ∃ W, (allP (rows.map RCell.r)).length = W := ⟨_, rfl⟩
          obtain ⟨an, han⟩ : ∃ an, W + ext.length = an := ⟨_, rfl⟩
          rw [hW, han] at HA11 hacl
          rw [hW] at hwl HWR
          rw [hW, han]
          have HW := hid hW
          have HAN := hid han
          have han6 : an ≤ 6000 := by omega
          have hWan : W ≤ an := by omega
          clear hW han
          go_upto_region 32 with fail
          go_cut [166] (fun v wz => v = .bool false ∧ wz = wx)
          case first =>
            have z4 := HK11.out.cell (i := 4) (v := .slice lba lb.l.length lbc) rfl
            by_cases he : ext.length = 0
            · have hq : (an : Int) = (W : Int) := by have := HAN.out; omega
              have q1 : ((an : Int) != (W : Int)) = false := by simpa using hq
              have q2 : decide ((an : Int) = (W : Int)) = true := decide_eq_true hq
              clear hq he
              go_wp2_with fail
              go_meet
              exact ⟨rfl, rfl⟩
            · have hq : ¬ (an : Int) = (W : Int) := by have := HAN.out; omega
              have q1 : ((an : Int) != (W : Int)) = true := by simpa using hq
              have q2 : decide ((an : Int) = (W : Int)) = false := decide_eq_false hq
              have hle : ext.length = lb.l.length := by
                rcases HEX.out with h9 | ⟨base, h9⟩
                · exact absurd (by rw [h9]; rfl) he
                · rw [h9, recs_len]
              have hsum : (W : Int) + (lb.l.length : Int) = (an : Int) := by have := HAN.out; omega
              have hs1 : (an : Int) = wrap64 ((W : Int) + (lb.l.length : Int)) := by rw [IntWalk.wrap64_in _ (by omega)]; exact hsum.symm
              have m1 : ((an : Int) != wrap64 ((W : Int) + (lb.l.length : Int))) = false := by simpa using hs1
              have m2 : decide ((an : Int) = wrap64 ((W : Int) + (lb.l.length : Int))) = true := decide_eq_true hs1
              have HSUM := hid hsum
              clear hs1
              clear hq he hle hsum
              go_wp2_with fail
              go_meet
              exact ⟨by rw [HSUM.out]; simp, rfl⟩
          case rest =>
            obtain ⟨hv9, hw9⟩ := hcut
            subst hv9
            subst hw9
            rename World => wx
            go_wp2_with fail
            go_loopw [25] (fun j wr => ∃ wi i m : Nat, i ≤ ext.length ∧ wi = W + i ∧ j = .int .i64 wi ∧ wr = wx.drewN m) (fun j _ => an - (intOf j).toNat)
            case atStart => exact ⟨W, 0, 0, Nat.zero_le _, (Nat.add_zero W).symm, rfl, rfl⟩
            case round =>
              obtain ⟨wi, i, m, hi, hwi, rfl, rfl⟩ := hrel
              by_cases hlt : i < ext.length
              · obtain ⟨base, hbase⟩ : ∃ base, ext = recsAt base lb.l := by
                  rcases HEX.out with h9 | h9
                  · rw [h9] at hlt; simp at hlt
                  · exact h9
                have hel : ext.length = lb.l.length := by rw [hbase, recs_len]
                obtain ⟨hj0, hj1, hd1, hd3, hd4, hd5, hwan, hin⟩ := last_nums hwi HAN.out hlt hel han6
                obtain ⟨y, hy⟩ : ∃ y, lb.l[i]? = some y := ⟨_, List.getElem?_eq_getElem hin⟩
                have hx := last_at HW.out hbase hwi hy
                obtain ⟨ga, rfl⟩ : ∃ ga, aa = some ⟨ga, 0, none⟩ := by
                  rcases Joins.ownsRow_forms HA11.out with ⟨_, hz⟩ | ⟨g9, cp9, h9⟩
                  · exact absurd hz (Nat.ne_of_gt (Nat.lt_of_le_of_lt (Nat.zero_le _) hwan))
                  · injection h9 with h9; exact ⟨g9, h9⟩
                have e := gotCells_on _ wi _ hx
                obtain ⟨l1, l2, l3⟩ := last_cell hwan
                have a1 : wx.cell? ⟨ga, wi * 4 + 1, none⟩ = some (.int .i64 y.key) := (HA11.out.cellAt (wi * 4 + 1) l1).trans (e 1 (by decide))
                have a2 : wx.cell? ⟨ga, wi * 4 + 2, none⟩ = some (.int .i64 y.time) := (HA11.out.cellAt (wi * 4 + 2) l2).trans (e 2 (by decide))
                have a3 : wx.cell? ⟨ga, wi * 4 + 3, none⟩ = some (.string (bs y.text)) := (HA11.out.cellAt (wi * 4 + 3) l3).trans (e 3 (by decide))
                obtain ⟨a, rfl, y0, y1, y2⟩ := HREC.out.at hy
                have z4 := HK11.out.cell (i := 4) (v := .slice (some a) lb.l.length lbc) rfl
                obtain ⟨c0, c1, c2⟩ := y
                dsimp only at a1 a2 a3 y0 y1 y2
                generalize bs c2 = c3 at a3 y2
                have hj2 : decide ((wi : Int) < (an : Int)) = true := decide_eq_true hj1
                have hi0 : (0 : Int) ≤ (i : Int) := Int.natCast_nonneg _
                have hi1 : (i : Int) < (lb.l.length : Int) := Int.ofNat_lt.2 hin
                have HWI := hid hwi
                have hlt2 := hlt
                have HLT2 := hid hlt2
                clear hx e hy hbase hwi hel hlt2 hi hlt l1 l2 l3 hin hl3 hrl80 hlb70 hwl hxl hacl hWan
                go_wp2_with fail
                go_quiet (fail)
                go_wp2_with fail
                go_roundw
                case rel => exact ⟨wi + 1, i + 1, m + nq, by have := HLT2.out; omega, by have := HWI.out; omega, by go_num, rfl⟩
                case measure => simp [intOf]; omega
              · obtain rfl : wi = an := by have := HAN.out; omega
                have hj2 : decide ((wi : Int) < (wi : Int)) = false := by simp
                have hfront := last_front HA11.out HW.out HAN.out
                have hbd := bel_drewN wx.heap.size wx m
                have HFR := hid (own_bel hfront hbd)
                have HWN := hid (own_bel HWR.out hbd)
                have HT12 := hid (HT11.out.below hbd)
                have hWc : (W : Int) ≤ (ac : Int) := by omega
                have hW0 : (0 : Int) ≤ (W : Int) := by omega
                clear hfront hwi hlt hbd
                generalize wx.drewN m = wz at HFR HWN HT12 ⊢
                go_wp2_with fail
                refine (sameGot_eq (va := .slice aa W ac) (vb := .slice v1a W v1c) (a := allP (rows.map RCell.r)) (by rw [HW.out]; exact HFR.out) (by rw [HW.out]; exact HWN.out) (by rw [HW.out]; omega)).mono ?_
                rintro e w20 ⟨rfl, n20, rfl⟩
                have HT13 := hid (HT12.out.below (bel_drewN _ _ n20))
                generalize wz.drewN n20 = wq at HT13 ⊢
                go_wp2_with fail
                refine (awake08_any _).mono ?_
                rintro e w21 ⟨rfl, hb21⟩
                have HB21 := hid (bel_next HT13.out.bel hb21)
                clear hb21
                go_wp2_with fail
                go_ret
                exact ⟨rfl, HB21.out⟩
end Go.Proofs.YtgjkjkeeblbjlaaGreatDoor
