/-
  Chapter 8's deeds: plain, and their cells. No conditions.
  Chapter 8's laws: fresh, awake: the walks. No conditions.
-/
import Derived.Test.YtgjkjkeeblbjlaaGreatDoorJAM
import Derived.Test.YtgjkjkeeblbjlaaGreatDoorGIM
import Derived.Test.YtgjkjkeeblbjlaaGreatDoorJHM
import Derived.Test.YtgjkjkeeblbjlaaGreatDoorJIM
set_option maxRecDepth 100000
namespace Go.Proofs.YtgjkjkeeblbjlaaGreatDoor
open Go.RowKit

/-- A deed of chapter 8's laws. -/
structure PDeed where
  kind : Int
  n : Int
  epoch : Int
  yes : Bool
  b : PBat
  keep : List Int

def pdCells (x : PDeed) (B K : Value) : List Value := [.int .i64 x.kind, .int .i64 x.n, .int .i64 x.epoch, .bool x.yes, .int .i64 x.b.kind, .int .i64 x.b.pid, .int .i64 x.b.epoch, .int .i64 x.b.seq, B, K]

/-- A deed with the values of its slices. -/
structure PDCell where
  d : PDeed
  B : Value
  K : Value
def pdsCells (q : List PDCell) : List Value := q.flatMap fun x => pdCells x.d x.B x.K

/-- What a deed's slices hold. -/
def PDCell.reads (w : World) (x : PDCell) : Prop := InRecs w x.B x.d.b.l ∧ (∀ r ∈ x.d.b.l, r.text.length ≤ maxLen) ∧ InRow w x.K x.d.keep.length 1 (keepCells x.d.keep)

def InPDeeds (w : World) (v : Value) (l : List PDeed) : Prop := ∃ q : List PDCell, q.map PDCell.d = l ∧ InRow w v q.length 10 (pdsCells q) ∧ ∀ x ∈ q, x.reads w

/-- A batch is not too much. -/
def PBat.light (b : PBat) : Bool := decide (b.l.length ≤ 70) && b.l.all fun r => decide (r.text.length ≤ 1000)
def PBat.empty : PBat := ⟨0, 0, 0, 0, []⟩
def PDeed.few (x : PDeed) : PDeed := { x with b := if x.b.light = true then x.b else PBat.empty, keep := x.keep.take 70 }
def fewP8 (l : List PDeed) : List PDeed := (l.take 40).map PDeed.few

theorem light_few (x : PDeed) : (x.few).b.light = true := by
  unfold PDeed.few
  dsimp only
  split
  · assumption
  · rfl

theorem pdsCells_app (a b : List PDCell) : pdsCells (a ++ b) = pdsCells a ++ pdsCells b := by unfold pdsCells; rw [List.flatMap_append]

theorem pds_at : ∀ (q : List PDCell) (i : Nat) (x : PDCell), q[i]? = some x → ∀ r, r < 10 → (pdsCells q)[i * 10 + r]? = (pdCells x.d x.B x.K)[r]?
  | [], _, _, h, _, _ => by simp at h
  | y :: q, 0, x, h, r, hr => by
    simp at h
    subst h
    have e : pdsCells (y :: q) = pdCells y.d y.B y.K ++ pdsCells q := rfl
    rw [e, Nat.zero_mul, Nat.zero_add, List.getElem?_append_left (by unfold pdCells; simpa using hr)]
  | y :: q, i + 1, x, h, r, hr => by
    have := pds_at q i x (by simpa using h) r hr
    have e : pdsCells (y :: q) = pdCells y.d y.B y.K ++ pdsCells q := rfl
    have e2 : (pdCells y.d y.B y.K).length = 10 := rfl
    rw [e, List.getElem?_append_right (by omega), e2, show (i + 1) * 10 + r - 10 = i * 10 + r from by omega]
    exact this

theorem pds_len (q : List PDCell) : (pdsCells q).length = q.length * 10 := by
  induction q with
  | nil => rfl
  | cons y q ih =>
    have e : pdsCells (y :: q) = pdCells y.d y.B y.K ++ pdsCells q := rfl
    have e2 : (pdCells y.d y.B y.K).length = 10 := rfl
    rw [e, List.length_append, ih, e2, List.length_cons]; omega

/-- A deed that came in, at its address. -/
theorem inPDeed {w : World} {ad : Option Addr} {q : List PDCell} (hat : ∀ j u, (pdsCells q)[j]? = some u → ∃ a, ad = some a ∧ w.cell? (a.add j) = some u) {k : Nat} {x : PDCell} (hx : q[k]? = some x) :
    ∃ a, ad = some a ∧ w.cell? (a.add (k * 10)) = some (.int .i64 x.d.kind) ∧ ∀ r u, 0 < r → (pdCells x.d x.B x.K)[r]? = some u → w.cell? ⟨(a.add (k * 10)).block, (a.add (k * 10)).off + r, none⟩ = some u := by
  obtain ⟨a, rfl, h0⟩ := hat (k * 10 + 0) (.int .i64 x.d.kind) (by rw [pds_at q k x hx 0 (by decide)]; rfl)
  refine ⟨a, rfl, h0, fun r u hr hu => ?_⟩
  have hr9 : r < 10 := by
    have h9 := (List.getElem?_eq_some_iff.1 hu).1
    exact h9
  obtain ⟨a', e, h1⟩ := hat (k * 10 + r) u (by rw [pds_at q k x hx r hr9]; exact hu)
  injection e with e
  subst e
  rwa [addr_off8 a (k * 10) r (by omega)] at h1
end Go.Proofs.YtgjkjkeeblbjlaaGreatDoor

namespace Go.Proofs.YtgjkjkeeblbjlaaGreatDoor
open Go.RowKit

def FreshPa (n : Int) (w : World) (e : Ending) (w' : World) : Prop :=
  ∃ (p l d : Nat) (S SL SD : Nat → Prop), e = .returned (.tuple #[.pointer (some ⟨p, 0, none⟩), .pointer (some ⟨d, 0, none⟩)]) ∧ TrioIn (paThing p l) w w' l d S SL SD sP aP.toP (dP n)

set_option maxHeartbeats 1000000 in
theorem fresh08_any (n : Int) (N : Int) (w : World) (hn : 1 ≤ n ∧ n ≤ 1000) (hg : NGood paNotes N sP aP (dP n)) (ho : (dP n).openLog paName = (aP.toP, dP n, 0)) :
    Calls Tryz.prog 16 #[.int .i64 n] w (FreshPa n w) := by
  have HG := hid hg
  have HO := hid ho
  clear hg ho
  go_enter Tryz.func16, Tryz.ntmps16
  go_wp2_with fail
  refine (new_any n w (by have := hn; omega)).mono ?_
  rintro e w1 ⟨rfl, hd, hb1⟩
  unfold ptr
  have hda : DiskAt w1 (w.heap.size + 1) (foot (w.heap.size + 1) w.heap.size []) (dP n) := ⟨_, _, hd, fun _ => Iff.rfl⟩
  have hS0 : ∀ k, foot (w.heap.size + 1) w.heap.size [] k → w.heap.size ≤ k := by
    rintro k (rfl | rfl | h)
    · omega
    · omega
    · simp at h
  generalize foot (w.heap.size + 1) w.heap.size [] = SD at hda hS0
  clear hd
  generalize w.heap.size + 1 = d at hda ⊢
  have HDA := hid hda
  have HS0 := hid hS0
  have HB1 := hid hb1
  clear hda hS0 hb1
  go_wp2_with fail
  refine (paOpen_good (N := N) HDA.out HG.out.wf HO.out HG.out).mono ?_
  rintro e w2 ⟨p, l, S, SL, SD2, rfl, ht, hfr, hs, hsl, hsd⟩
  have hsz := HB1.out.size
  have HP : Hid (FreshPa n w (.returned (.tuple #[.pointer (some ⟨p, 0, none⟩), .pointer (some ⟨d, 0, none⟩)])) w2) := hid (by
    refine ⟨p, l, d, S, SL, SD2, rfl, ht, HB1.out.trans (hfr.to_below hsz (fun k hk h9 => by have := HS0.out k h9; omega)), fun k hk => ?_, fun k hk => ?_, fun k hk => ?_⟩
    · have := hs k hk; omega
    · have := hsl k hk; omega
    · rcases hsd k hk with h9 | h9
      · exact HS0.out k h9
      · omega)
  clear ht hfr hs hsl hsd
  go_wp2_with fail
  go_ret2
  exact HP.out

def AwakePost8 (w : World) (e : Ending) (w' : World) : Prop := e = .returned (.bool true) ∧ Below w.heap.size w w'

theorem inRecs_one (w : World) (x : PRec) : InRecs (w.alloc (.cells #[.int .i64 x.key, .int .i64 x.time, .string (bs x.text)] 36)) (.slice (some ⟨w.heap.size, 0, none⟩) 1 1) [x] := by
  refine ⟨some ⟨w.heap.size, 0, none⟩, 1, rfl, Nat.le_refl _, by decide, fun j u hj => ⟨_, rfl, ?_⟩⟩
  rw [Addr.add_lit, Nat.zero_add]
  refine (Blk.new w _ _).cell ?_
  simpa [recCells, PRec.cells] using hj

set_option maxHeartbeats 4000000 in
theorem awake08_any (w : World) : Calls Tryz.prog 15 #[] w (AwakePost8 w) := by
  go_enter Tryz.func15, Tryz.ntmps15
  go_wp2_with fail
  refine (fresh08_any 9 9 w (by decide) paNew9 dP_open9).mono ?_
  rintro e w1 ⟨p, l, d, S, SL, SD, rfl, hm⟩
  obtain ⟨A1, D1, hput, hg1, hw1, ha1, hn1⟩ := ex_put
  obtain ⟨A2, D2, hmark, hg2, ha2, hn2⟩ := ex_mark hg1 hw1 ha1 hn1
  have hfe1 := ex_fetch1 hg1 ha1 hn1
  have hfe2 := ex_fetch2 hg2 ha2 hn2
  have HM := hid hm
  have HPUT := hid hput
  have HMARK := hid hmark
  have HG1 := hid hg1
  have HG2 := hid hg2
  have HF1 := hid hfe1
  have HF2 := hid hfe2
  have hba : Below w1.heap.size w1 (w1.alloc (.cells #[.int .i64 0, .int .i64 0, .string ⟨#[120]⟩] 36)) := bel_alloc (Below.refl _ _) _
  have HMA := hid (hm.below hba)
  have HIR : Hid (InRecs (w1.alloc (.cells #[.int .i64 0, .int .i64 0, .string ⟨#[120]⟩] 36)) (.slice (some ⟨w1.heap.size, 0, none⟩) 1 1) exB.l) := hid (inRecs_one w1 ⟨0, 0, [120]⟩)
  clear hm hput hmark hg1 hg2 hfe1 hfe2 ha1 ha2 hn1 hn2 hw1 hba
  go_wp2_with fail
  have hp1 := paPut_any (N := 9) exB (.slice (some ⟨w1.heap.size, 0, none⟩) 1 1) HMA.out.trio ⟨by decide, by decide, by decide, by decide⟩ (fun _ => paNew9) HIR.out (by decide) (by decide)
  rw [HPUT.out] at hp1
  have hv : exB.val (.slice (some ⟨w1.heap.size, 0, none⟩) 1 1) = .agg #[.int .i64 2, .int .i64 1, .int .i64 1, .int .i64 0, .slice (some ⟨w1.heap.size, 0, none⟩) 1 1] := rfl
  rw [hv] at hp1
  refine hp1.mono ?_
  clear hp1 hv
  rintro e w2 ⟨rfl, hto⟩
  obtain ⟨S2, SL2, SD2, hm2⟩ := HMA.out.call hto
  have HM2 := hid hm2
  clear hto hm2 HMA HM HIR
  go_wp2_with fail
  have hp2 := paFetch_any 0 9 true HM2.out.trio HG1.out
  rw [HF1.out] at hp2
  refine hp2.mono ?_
  clear hp2
  rintro e w3 ⟨v3, rfl, hrow3, hb3⟩
  obtain ⟨va3, vc3, rfl⟩ := row_slice hrow3
  have HM3 := hid (HM2.out.below hb3)
  clear hrow3 hb3 HM2
  go_wp2_with fail
  have hp3 := paMark_any (N := 9) 1 1 true HM3.out.trio ⟨by decide, by decide, by decide, by decide⟩ (fun _ => HG1.out)
  rw [HMARK.out] at hp3
  refine hp3.mono ?_
  clear hp3
  rintro e w4 ⟨rfl, hto⟩
  obtain ⟨S4, SL4, SD4, hm4⟩ := HM3.out.call hto
  have HM4 := hid hm4
  clear hto hm4 HM3
  go_wp2_with fail
  have hp4 := paFetch_any 0 9 true HM4.out.trio HG2.out
  rw [HF2.out] at hp4
  refine hp4.mono ?_
  clear hp4
  rintro e w5 ⟨v5, rfl, hrow5, hb5⟩
  have hl1 : ([⟨0, ⟨0, 0, [120]⟩⟩] : List PGot).length = 1 := rfl
  dsimp only at hrow5
  rw [hl1] at hrow5
  obtain ⟨g5, c5, rfl⟩ : ∃ g cap, v5 = .slice (some ⟨g, 0, none⟩) 1 cap := by
    rcases Joins.ownsRow_forms hrow5 with ⟨_, hz⟩ | ⟨g, cap, rfl⟩
    · omega
    · exact ⟨g, cap, rfl⟩
  have k0 : w5.cell? ⟨g5, 0, none⟩ = some (.int .i64 0) := hrow5.cellAt 0 (by omega)
  have k1 : w5.cell? ⟨g5, 1, none⟩ = some (.int .i64 0) := hrow5.cellAt 1 (by omega)
  have k2 : w5.cell? ⟨g5, 2, none⟩ = some (.int .i64 0) := hrow5.cellAt 2 (by omega)
  have k3 : w5.cell? ⟨g5, 3, none⟩ = some (.string ⟨#[120]⟩) := hrow5.cellAt 3 (by omega)
  have HB9 := hid (bel_next HM4.out.bel hb5)
  clear hrow5 hb5 HM4 hl1
  go_wp2_with fail
  go_ret
  exact ⟨rfl, HB9.out⟩
end Go.Proofs.YtgjkjkeeblbjlaaGreatDoor
