/-
  part: what Fetch tells, plain, and its cells. No conditions.
  part: Fetch: the walk. Conditions: a partition whose log is well.
-/
import Derived.Test.YtgjkjkeeblbjlaaGreatDoorJFM
import Derived.Test.YtgjkjkeeblbjlaaGreatDoorGEM
set_option maxRecDepth 100000
namespace Go.Proofs.YtgjkjkeeblbjlaaGreatDoor
open Go.RowKit

/-- What Fetch tells: records, where to go on, an error. -/
def PPart.fetch (s : PPart) (L : PLog) (D : PDisk) (off most : Int) (committed : Bool) : List PGot × Int × Int :=
  if (L.fetch D off most).2 ≠ 0 then ([], 0, (L.fetch D off most).2) else
  ((s.gets (s.stable L) off committed (L.fetch D off most).1 ([], off)).1, (s.gets (s.stable L) off committed (L.fetch D off most).1 ([], off)).2, 0)

def PGot.cells (g : PGot) : List Value := [.int .i64 g.off, .int .i64 g.r.key, .int .i64 g.r.time, .string (bs g.r.text)]
def gotCells (l : List PGot) : List Value := l.flatMap PGot.cells

theorem gotCells_len (l : List PGot) : (gotCells l).length = l.length * 4 := by
  induction l with
  | nil => rfl
  | cons x l ih => unfold gotCells at ih ⊢; rw [List.flatMap_cons, List.length_append, ih]; simp [PGot.cells]; omega
theorem gotCells_app (a b : List PGot) : gotCells (a ++ b) = gotCells a ++ gotCells b := by unfold gotCells; rw [List.flatMap_append]
theorem got_one (l : List PGot) : ∀ u ∈ gotCells l, u.oneCell' = true := by
  intro u hu
  unfold gotCells at hu
  obtain ⟨x, _, hx⟩ := List.mem_flatMap.1 hu
  simp only [PGot.cells, List.mem_cons, List.not_mem_nil, or_false] at hx
  rcases hx with rfl | rfl | rfl | rfl <;> rfl

theorem Tryz.infoGot : (Tryz.prog.info? 38).map (fun i => (i.zero, i.size, i.bytes)) = some (some (.agg #[.int .i64 0, .int .i64 0, .int .i64 0, .string ⟨#[]⟩]), 4, 40) := by kernel_rfl

theorem gotsOf_next {base off : Int} {l : List PRec} {j : Nat} {x : PRec} (hx : l[j]? = some x) : gotsOf base off (l.take (j + 1)) = gotsOf base off (l.take j) ++ (if off ≤ base + j then [⟨base + j, x⟩] else []) := by
  have hj := (List.getElem?_eq_some_iff.1 hx).1
  have hl : (l.take j).length = j := by rw [List.length_take]; omega
  unfold gotsOf
  rw [List.take_add_one, hx, Option.toList_some, List.mapIdx_append, List.filter_append, hl]
  congr 1
  by_cases h : off ≤ base + j
  · rw [if_pos h]; simp [h]
  · rw [if_neg h]; simp [h]

theorem gotsOf_len (base off : Int) (l : List PRec) : (gotsOf base off l).length ≤ l.length := by
  unfold gotsOf
  refine Nat.le_trans (List.length_filter_le _ _) ?_
  rw [List.length_mapIdx]
  exact Nat.le_refl _

theorem fetch_mem {A : ALog} {D : PDisk} {N : Int} (h : Inv A D) (hw : D.WF N) (ho : D.off = false) (he : A.e = 0) (off most : Int) : ∀ x ∈ (A.toP.fetch D off most).1, x ∈ A.all := by
  by_cases hm : 1 ≤ most ∧ most ≤ 32
  · by_cases hr : A.first ≤ off ∧ off ≤ A.next
    · rw [h.fetch hw ho he hm hr.1 hr.2]
      intro x hx
      exact (List.mem_filter.1 (List.mem_of_mem_take hx)).1
    · have e : A.toP.fetch D off most = ([], 6) := by
        unfold PLog.fetch
        rw [if_neg (by omega), if_neg (show ¬ A.toP.e ≠ 0 from fun h => h he), if_pos (show off < A.toP.first ∨ A.toP.next < off from (by show off < A.first ∨ A.next < off; omega))]
      rw [e]
      intro x hx
      simp at hx
  · have e : A.toP.fetch D off most = ([], 1) := by
      unfold PLog.fetch
      rw [if_pos (by omega)]
    rw [e]
    intro x hx
    simp at hx

theorem fetch_len {A : ALog} {D : PDisk} {N : Int} (h : Inv A D) (hw : D.WF N) (ho : D.off = false) (he : A.e = 0) (off most : Int) : (A.toP.fetch D off most).1.length ≤ 32 := by
  by_cases hm : 1 ≤ most ∧ most ≤ 32
  · by_cases hr : A.first ≤ off ∧ off ≤ A.next
    · rw [h.fetch hw ho he hm hr.1 hr.2, List.length_take]
      omega
    · have e : A.toP.fetch D off most = ([], 6) := by
        unfold PLog.fetch
        rw [if_neg (by omega), if_neg (show ¬ A.toP.e ≠ 0 from fun h => h he), if_pos (show off < A.toP.first ∨ A.toP.next < off from (by show off < A.first ∨ A.next < off; omega))]
      rw [e]; simp
  · have e : A.toP.fetch D off most = ([], 1) := by
      unfold PLog.fetch
      rw [if_pos (by omega)]
    rw [e]; simp

/-- Each entry of a partition's log is a batch. -/
theorem Notes.replay_mem {σ : Type} (P : Notes σ) : ∀ {l : List Ent} {s s1 : σ} {x : Ent}, P.replay l s = some s1 → x ∈ l → ∃ a b, P.step x a = some b
  | e :: l, s, s1, x, h, hx => by
    rw [Notes.replay] at h
    cases h1 : P.step e s with
    | none => rw [h1] at h; cases h
    | some s2 =>
      rw [h1] at h
      rcases List.mem_cons.1 hx with rfl | hx
      · exact ⟨s, s2, h1⟩
      · exact Notes.replay_mem P h hx

theorem pa_bat {N : Int} {s : PPart} {A : ALog} {D : PDisk} (h : NGood paNotes N s A D) {x : Ent} (hx : x ∈ A.all) : ∃ b, batOf x.text = some b ∧ x.n = b.len := by
  obtain ⟨a, c, h1⟩ := paNotes.replay_mem h.rep hx
  obtain ⟨b, h2, h3, _⟩ := paStep_some h1
  exact ⟨b, h2, h3⟩
end Go.Proofs.YtgjkjkeeblbjlaaGreatDoor

namespace Go.Proofs.YtgjkjkeeblbjlaaGreatDoor
open Go.RowKit

def PaFetchPost (w : World) (r : List PGot × Int × Int) (e : Ending) (w' : World) : Prop :=
  ∃ v, e = .returned (.tuple #[v, .int .i64 r.2.1, .int .i64 r.2.2]) ∧ w'.ownsRow w.heap.size 38 4 v r.1.length (gotCells r.1) ∧ Below w.heap.size w w'

/-- What Fetch holds between two entries. -/
structure FetMid (w1 : World) (s : PPart) (st off : Int) (c : Bool) (r : List Ent) (z : List PGot × Int) (i : Nat) (acc : List PGot) (next : Int) (K : Value) (wr : World) : Prop where
  le : i ≤ r.length
  row : wr.ownsRow w1.heap.size 38 4 K acc.length (gotCells acc)
  bel : Below w1.heap.size w1 wr
  gets : s.gets st off c (r.drop i) (acc, next) = z
  len : acc.length ≤ 64 * i

/-- .. and between two records. -/
structure FetIn (w1 : World) (base off : Int) (b : PBat) (acc : List PGot) (ec : Array Value) (eb : Nat) (KR : Value) (j : Nat) (K : Value) (wr : World) : Prop where
  le : j ≤ b.l.length
  row : wr.ownsRow w1.heap.size 38 4 K (acc ++ gotsOf base off (b.l.take j)).length (gotCells (acc ++ gotsOf base off (b.l.take j)))
  bel : Below w1.heap.size w1 wr
  ent : Blk wr eb ec 103
  recs : wr.ownsRow 0 36 3 KR b.l.length (recCells b.l)

def RecRead (w : World) (g : Nat) (l : List PRec) : Prop :=
  ∀ j x, l[j]? = some x → w.cell? ⟨g, j * 3, none⟩ = some (.int .i64 x.key) ∧ w.cell? ⟨g, j * 3 + 1, none⟩ = some (.int .i64 x.time) ∧ w.cell? ⟨g, j * 3 + 2, none⟩ = some (.string (bs x.text))

theorem RecRead.own {w : World} {base g n cap : Nat} {l : List PRec} (h : w.ownsRow base 36 3 (.slice (some ⟨g, 0, none⟩) n cap) l.length (recCells l)) : RecRead w g l := by
  intro j x hx
  have e := recCells_at l j x hx
  have e0 := e 0 (by omega)
  have e1 := e 1 (by omega)
  have e2 := e 2 (by omega)
  have hlt := (List.getElem?_eq_some_iff.1 hx).1
  obtain ⟨rfl, _⟩ : n = l.length ∧ True := by
    rcases h.2 with ⟨h2, _⟩ | ⟨g2, c2, cur, h2, _⟩
    · cases h2
    · injection h2 with _ h3; exact ⟨h3, trivial⟩
  exact ⟨(h.cellAt _ (by omega)).trans e0, (h.cellAt _ (by omega)).trans e1, (h.cellAt _ (by omega)).trans e2⟩

set_option maxHeartbeats 32000000 in
theorem paFetch_any {w : World} {p l d : Nat} {S SL SD : Nat → Prop} {s : PPart} {A : ALog} {D : PDisk} {N : Int} (off most : Int) (committed : Bool) (h : Trio (paThing p l) w l d S SL SD s A.toP D) (hg : NGood paNotes N s A D) :
    Calls Tryz.prog 23 #[.pointer (some ⟨p, 0, none⟩), .int .i64 off, .int .i64 most, .bool committed] w (PaFetchPost w (s.fetch A.toP D off most committed)) := by
  obtain ⟨i1, hi1, hy0, hy1, hy2⟩ := info_parts Tryz.infoGot
  obtain ⟨rr, hrr⟩ : ∃ rr, s.fetch A.toP D off most committed = rr := ⟨_, rfl⟩
  rw [hrr]
  unfold PPart.fetch at hrr
  have hmem := fetch_mem hg.inv hg.wf hg.off hg.e off most
  have hlen := fetch_len hg.inv hg.wf hg.off hg.e off most
  have hch := hg.chain.1
  have HFE := hid (fetch_any (N := N) off most h.log h.disk hg.wf (hg.inv.wf hg.wf) (hg.inv.fetch_pos hg.wf hg.off off))
  unfold ptr at HFE
  obtain ⟨r, c1, hf⟩ : ∃ r c1, A.toP.fetch D off most = (r, c1) := ⟨_, _, rfl⟩
  rw [hf] at hrr HFE hmem hlen
  dsimp only at hrr hmem hlen
  have hbat : ∀ x ∈ r, ∃ b, batOf x.text = some b ∧ x.n = b.len := fun x hx => pa_bat hg (hmem x hx)
  have hok : ∀ x ∈ r, x.ok := fun x hx => hch.ok x (hmem x hx)
  have HRR := hid hrr
  have HSM := hid (paSmall_of hg)
  have HBAT := hid hbat
  have HOK := hid hok
  have HT := hid h
  have c0 := PaAt.c0 h.obj
  obtain ⟨st, hst⟩ : ∃ st, s.stable A.toP = st := ⟨_, rfl⟩
  have HST : Hid (∀ W, Trio (paThing p l) W l d S SL SD s A.toP D → Calls Tryz.prog 13 #[.pointer (some ⟨p, 0, none⟩)] W fun e w' => e = .returned (.int .i64 st) ∧ W = w') := hid (fun W hW => by
    have h9 := paStable_any hW
    rw [hst] at h9
    exact h9)
  rw [hst] at HRR
  clear hmem hch hf hbat hok hrr hst h hg
  go_enter Tryz.func23, Tryz.ntmps23
  go_wp2_with fail
  refine (paNone_any HT.out.obj).mono ?_
  rintro e w' ⟨rfl, rfl⟩
  go_wp2_with fail
  refine HFE.out.mono ?_
  rintro e w1 ⟨v, rfl, hrow, hb1⟩
  dsimp only at hrow ⊢
  have HB1 := hid hb1
  have HROW := hid hrow
  have HT1 := hid (HT.out.below hb1)
  obtain ⟨va, vc, rfl⟩ := row_slice hrow
  clear hrow hb1 HFE c0
  by_cases hc1 : c1 = 0
  · subst hc1
    have HR2 := hid (HRR.out.symm.trans (if_neg (fun h9 => h9 rfl)))
    obtain ⟨z, hz⟩ : ∃ z, s.gets st off committed r ([], off) = z := ⟨_, rfl⟩
    have hr3 := HR2.out
    rw [hz] at hr3
    have HR3 := hid hr3
    have hmid : FetMid w1 s st off committed r z 0 [] off (.slice none 0 0) w1 := ⟨Nat.zero_le _, World.ownsRow_nil _ _ _ _, Below.refl _ _, hz, Nat.zero_le _⟩
    have HMID := hid hmid
    clear hr3 HR2 HRR hz hmid
    go_wp2_with fail
    go_loopw [13, 14, 39] (fun K nx c wr => ∃ (i : Nat) (acc : List PGot) (next : Int), c = .int .i64 i ∧ nx = .int .i64 next ∧ FetMid w1 s st off committed r z i acc next K wr) (fun _ _ c _ => r.length - (intOf c).toNat)
    case atStart => exact ⟨0, [], off, rfl, rfl, HMID.out⟩
    case round =>
      obtain ⟨i, acc, next, rfl, rfl, hmid⟩ := hrel
      obtain ⟨ka, kc, rfl⟩ := row_slice hmid.row
      have hil := hmid.le
      by_cases hlt : i < r.length
      · obtain ⟨x, hx⟩ : ∃ x, r[i]? = some x := ⟨_, List.getElem?_eq_getElem hlt⟩
        obtain ⟨g, rfl⟩ : ∃ g, va = some ⟨g, 0, none⟩ := by
          rcases Joins.ownsRow_forms HROW.out with ⟨e9, hz⟩ | ⟨g, cap, e9⟩
          · omega
          · injection e9 with e9 _ _
            exact ⟨g, e9⟩
        have hxm := List.mem_of_getElem? hx
        obtain ⟨b, hb, hbn⟩ := HBAT.out x hxm
        have hxok := HOK.out x hxm
        obtain ⟨_, _, _, hbok⟩ := batOf_some hb
        have hxb0 : 0 ≤ x.base := hxok.1
        have hxb1 : x.base ≤ 1099511627776 := hxok.2.1
        have hxt : x.text.length ≤ 65536 := hxok.2.2.2.2
        have hbl : b.l.length ≤ 64 := hbok.1.2.2
        have hxn1 : 1 ≤ b.len := b.len1
        have hxn2 : b.len ≤ 64 := by unfold PBat.len; omega
        have hdrop : r.drop i = x :: r.drop (i + 1) := by
          rw [List.drop_eq_getElem_cons hlt]
          rw [List.getElem?_eq_getElem hlt] at hx
          injection hx with hx
          rw [hx]
        obtain ⟨e0, e1, e2⟩ := entCells_at _ _ _ hx
        have hrw := own_bel HROW.out hmid.bel
        have x0 := (hrw.cellAt (i * 3) (by omega)).trans e0
        have x1 := (hrw.cellAt (i * 3 + 1) (by omega)).trans e1
        have x2 := (hrw.cellAt (i * 3 + 2) (by omega)).trans e2
        have hgl := (hrw.lt g rfl).2
        have hgn : g ≠ wr.heap.size := by omega
        have hi0 : (0 : Int) ≤ (i : Int) := by omega
        have hi1' : (i : Int) < (r.length : Int) := by omega
        have hgets := hmid.gets
        rw [hdrop] at hgets
        have HGETS := hid hgets
        have HM := hid hmid
        have HB := hid hb
        rw [hbn] at x1
        have HBN := hid hbn
        have HBOK := hid hbok
        have hbw : Below wr.heap.size wr (wr.alloc (.cells #[.int .i64 x.base, .int .i64 b.len, .string (bs x.text)] 103)) := bel_alloc (Below.refl _ _) _
        have HTW := hid ((HT1.out.below HM.out.bel).below hbw)
        have HBW := hid (bel_next HM.out.bel hbw)
        have HROWW := hid (own_bel HM.out.row hbw)
        have HBE := hid (Blk.new wr #[.int .i64 x.base, .int .i64 b.len, .string (bs x.text)] 103)
        clear hgets hmid hx hxm hb hxok e0 e1 e2 hrw hbn hbok hbw hdrop
        go_wp2_with fail
        generalize wr.alloc (.cells #[.int .i64 x.base, .int .i64 b.len, .string (bs x.text)] 103) = w2 at HTW HBW HROWW HBE ⊢
        have q0 := HBE.out.cell (i := 0) (v := .int .i64 x.base) rfl
        clear x0 x1 x2 hgn
        cases committed with
        | false =>
          refine wp_region_lex (fun w' => w'.cell? ⟨wr.heap.size, 0, none⟩ = some (.int .i64 x.base)) [5] (by kernel_rfl) (by kernel_rfl) (fun _ _ _ _ _ h => h) (by exact q0) (fun hHeld => ?_)
          iterate 2
            refine lex_take (v := ?_) (by kernel_rfl) (by kernel_rfl) ?_ ?_
            rotate_left
            focus
              intro w' hSw
              try dsimp only at hSw
              go_simp <;> with_reducible rfl
            simp only [Act.put, List.setIfInBounds_toArray, List.set_cons_zero, List.set_cons_succ]
          iterate 5
            refine lex_skip (by kernel_rfl) ?_
            simp only [Act.put, List.setIfInBounds_toArray, List.set_cons_zero, List.set_cons_succ]
          iterate 1
            refine lex_take (v := ?_) (by kernel_rfl) (by kernel_rfl) ?_ ?_
            rotate_left
            focus
              intro w' hSw
              try dsimp only at hSw
              go_simp <;> with_reducible rfl
            simp only [Act.put, List.setIfInBounds_toArray, List.set_cons_zero, List.set_cons_succ]
          refine lex_nil ?_
          clear hHeld
          have HTW3 := hid (HTW.out.below (Below.refl _ _).drew)
          have HBW3 := hid (bel_next HBW.out (Below.refl _ _).drew)
          have HROWW3 := hid (own_bel HROWW.out (Below.refl _ _).drew)
          have HBE3 := hid (HBE.out.below' (Below.refl _ _).drew)
          clear HTW HBW HROWW HBE q0
          generalize w2.drew = w3 at HTW3 HBW3 HROWW3 HBE3 ⊢
          have HT3 := hid HTW3.out
          have q0 := HBE3.out.cell (i := 0) (v := .int .i64 x.base) rfl
          have q1 := HBE3.out.cell (i := 1) (v := .int .i64 b.len) rfl
          have q2 := HBE3.out.cell (i := 2) (v := .string (bs x.text)) rfl
          have hn2 : 0 ≤ x.base + b.len ∧ x.base + b.len ≤ 2199023255552 := by omega
          go_wp2_with fail
          refine (bDecode_any HB.out (by omega) _).mono ?_
          rintro e w4 ⟨KR, rfl, hrow4, hb4⟩
          unfold PBat.val
          obtain ⟨ra, rc, rfl⟩ := row_slice hrow4
          have hbb : Below w4.heap.size w4 (w4.alloc (.cells #[.int .i64 b.kind, .int .i64 b.pid, .int .i64 b.epoch, .int .i64 b.seq, .slice ra b.l.length rc] 31)) := bel_alloc (Below.refl _ _) _
          have HBB := hid (Blk.new w4 #[.int .i64 b.kind, .int .i64 b.pid, .int .i64 b.epoch, .int .i64 b.seq, .slice ra b.l.length rc] 31)
          have HTB := hid ((HT3.out.below hb4).below hbb)
          have HBWB := hid (bel_next (bel_next HBW3.out hb4) hbb)
          have HROWB := hid (own_bel (own_bel HROWW3.out hb4) hbb)
          have HBEB := hid ((HBE3.out.below' hb4).below' hbb)
          have HRECB := hid (own_bel (own_base hrow4 (Nat.zero_le _)) hbb)
          clear hrow4 hb4 hbb HTW3 HT3 HBW3 HROWW3 HBE3 q0 q1 q2
          go_wp2_with fail
          generalize w4.alloc (.cells #[.int .i64 b.kind, .int .i64 b.pid, .int .i64 b.epoch, .int .i64 b.seq, .slice ra b.l.length rc] 31) = w5 at HBB HTB HBWB HROWB HBEB HRECB ⊢
          have HGET2 : Hid (s.gets st off false (r.drop (i + 1)) (acc ++ gotsOf x.base off b.l, x.base + b.len) = z) := hid (by
            have h9 := HGETS.out
            rw [PPart.gets, if_neg (by simp), HB.out] at h9
            dsimp only at h9
            rw [if_neg (by simp), HBN.out] at h9
            exact h9)
          clear HGETS
          have t4 := HBB.out.cell (i := 4) (v := .slice ra b.l.length rc) rfl
          have hin : FetIn w1 x.base off b acc #[.int .i64 x.base, .int .i64 b.len, .string (bs x.text)] wr.heap.size (.slice ra b.l.length rc) 0 (.slice ka acc.length kc) w5 := ⟨Nat.zero_le _, by simpa [gotsOf] using HROWB.out, HBWB.out, HBEB.out, HRECB.out⟩
          have HIN := hid hin
          clear hin HROWB HBWB HBEB HRECB t4
          go_loopw [13, 79] (fun K c w8 => ∃ (j : Nat), c = .int .i64 j ∧ FetIn w1 x.base off b acc #[.int .i64 x.base, .int .i64 b.len, .string (bs x.text)] wr.heap.size (.slice ra b.l.length rc) j K w8) (fun _ c _ => b.l.length - (intOf c).toNat)
          case atStart => exact ⟨0, rfl, HIN.out⟩
          case round =>
            obtain ⟨j, rfl, hin⟩ := hrel
            obtain ⟨ka2, kc2, rfl⟩ := row_slice hin.row
            have hjl := hin.le
            rename World => w8
            by_cases hjt : j < b.l.length
            · obtain ⟨y, hy⟩ : ∃ y, b.l[j]? = some y := ⟨_, List.getElem?_eq_getElem hjt⟩
              obtain ⟨g9, rfl⟩ : ∃ g, ra = some ⟨g, 0, none⟩ := by
                rcases Joins.ownsRow_forms hin.recs with ⟨e9, hz⟩ | ⟨g, cap, e9⟩
                · omega
                · injection e9 with e9 _ _
                  exact ⟨g, e9⟩
              obtain ⟨y0, y1, y2⟩ := RecRead.own hin.recs j y hy
              have hg9 := (hin.recs.lt g9 rfl).2
              have hgn9 : g9 ≠ w8.heap.size := by omega
              have hebl := hin.ent.lt
              have hen : wr.heap.size ≠ w8.heap.size := by omega
              have p0 := hin.ent.cell (i := 0) (v := .int .i64 x.base) rfl
              have hj0 : (0 : Int) ≤ (j : Int) := by omega
              have hj1 : (j : Int) < (b.l.length : Int) := by omega
              have hj2 : (j : Int) ≤ 64 := by omega
              have hbj : 0 ≤ x.base + (j : Int) ∧ x.base + (j : Int) ≤ 2199023255552 := by omega
              have hnx := gotsOf_next (base := x.base) (off := off) hy
              have hacc := HM.out.len
              have hgl9 := gotsOf_len x.base off (b.l.take j)
              have htl : (b.l.take j).length = j := by rw [List.length_take]; omega
              have HINN := hid hin
              clear hin hy
              by_cases hof : off ≤ x.base + (j : Int)
              · rw [if_pos hof] at hnx
                have HNX := hid hnx
                have dof : decide (off ≤ x.base + (j : Int)) = true := decide_eq_true hof
                have hle9 : (acc ++ gotsOf x.base off (b.l.take j)).length ≤ 10000 := by rw [List.length_append]; omega
                have hba9 : Below w8.heap.size w8 (w8.alloc (.cells #[.int .i64 y.key, .int .i64 y.time, .string (bs y.text)] 36)) := bel_alloc (Below.refl _ _) _
                have HROW9 := hid (own_bel HINN.out.row hba9)
                have HB9 := hid (bel_next HINN.out.bel hba9)
                have HENT9 := hid (HINN.out.ent.below' hba9)
                have HREC9 := hid (own_bel HINN.out.recs hba9)
                clear hnx hba9 hgl9 htl hof
                generalize hal : (acc ++ gotsOf x.base off (b.l.take j)).length = n9 at HROW9 hle9 ⊢
                have HAL := hid hal
                clear hal
                go_wp2_with (at_builtin; refine wpList_append_own _ rfl _ _ 34 rfl w1.heap.size 38 i1 (.agg #[.int .i64 0, .int .i64 0, .int .i64 0, .string ⟨#[]⟩]) 4 40 Tryz.underlying34 hi1 hy0 hy1 hy2 rfl (by decide) _ _ _ rfl (HROW9.out.alloc _) ⟨w8.heap.size + 1, 0, none⟩ 1 1 [.int .i64 (x.base + (j : Int)), .int .i64 y.key, .int .i64 y.time, .string (bs y.text)] rfl rfl ?c1 ?c2 ?c3 ?c4 ?c5 ?_)
                case c1 =>
                  intro k u hk
                  have h9 := blk_next w8 (.cells #[.int .i64 y.key, .int .i64 y.time, .string (bs y.text)] 36) #[.int .i64 (x.base + (j : Int)), .int .i64 y.key, .int .i64 y.time, .string (bs y.text)] 38
                  have e9 : (⟨w8.heap.size + 1, 0, none⟩ : Addr).add k = ⟨w8.heap.size + 1, k, none⟩ := by
                    cases k with
                    | zero => simp [Addr.add]
                    | succ k => simp [Addr.add]
                  rw [e9]
                  refine h9.cell ?_
                  rw [List.getElem?_toArray]
                  exact hk
                case c2 => simp [Value.oneCell']
                case c3 => unfold maxLen; omega
                case c4 => omega
                case c5 => have := HB9.out.size; simp at this ⊢; omega
                intro v7 w7 hown7 hgrow7 _
                have hn6 := own_not HROW9.out HENT9.out (show 103 ≠ 38 by decide)
                have hent7 := (HENT9.out.alloc (.cells #[.int .i64 (x.base + (j : Int)), .int .i64 y.key, .int .i64 y.time, .string (bs y.text)] 38)).grown hgrow7 hn6
                have hrec7 := row_fr (HREC9.out.alloc (.cells #[.int .i64 (x.base + (j : Int)), .int .i64 y.key, .int .i64 y.time, .string (bs y.text)] 38)) (fr_grown hgrow7) (fun k hk h9 => row_two HREC9.out HROW9.out (show 36 ≠ 38 by decide) hk h9)
                have hb7 : Below w1.heap.size w1 w7 := bel_append (bel_alloc HB9.out _) (HROW9.out.alloc _) (by have := HB9.out.size; simp at this ⊢; omega) hgrow7
                have htk : gotCells (acc ++ gotsOf x.base off (b.l.take (j + 1))) = gotCells (acc ++ gotsOf x.base off (b.l.take j)) ++ [.int .i64 (x.base + (j : Int)), .int .i64 y.key, .int .i64 y.time, .string (bs y.text)] := by
                  rw [HNX.out, ← List.append_assoc, gotCells_app]
                  simp [gotCells, PGot.cells]
                have hln : (acc ++ gotsOf x.base off (b.l.take (j + 1))).length = n9 + 1 := by
                  rw [HNX.out, ← List.append_assoc, List.length_append, HAL.out]; rfl
                rw [← htk, ← hln] at hown7
                obtain ⟨va7, vc7, rfl⟩ := row_slice hown7
                have HST7 : Hid (FetIn w1 x.base off b acc #[.int .i64 x.base, .int .i64 b.len, .string (bs x.text)] wr.heap.size (.slice (some ⟨g9, 0, none⟩) b.l.length rc) (j + 1) (.slice va7 (acc ++ gotsOf x.base off (b.l.take (j + 1))).length vc7) w7) := hid ⟨by omega, hown7, hb7, hent7, hrec7⟩
                clear hown7 hgrow7 hn6 hent7 hrec7 hb7 htk HINN HROW9 HB9 HENT9 HREC9
                go_wp2_with fail
                go_roundw
                case rel => exact ⟨j + 1, by go_num, HST7.out⟩
                case measure => simp [intOf]; omega
              · rw [if_neg hof, List.append_nil] at hnx
                have dof : decide (off ≤ x.base + (j : Int)) = false := decide_eq_false hof
                have hba9 : Below w8.heap.size w8 (w8.alloc (.cells #[.int .i64 y.key, .int .i64 y.time, .string (bs y.text)] 36)) := bel_alloc (Below.refl _ _) _
                have hst7 : FetIn w1 x.base off b acc #[.int .i64 x.base, .int .i64 b.len, .string (bs x.text)] wr.heap.size (.slice (some ⟨g9, 0, none⟩) b.l.length rc) (j + 1) (.slice ka2 (acc ++ gotsOf x.base off (b.l.take j)).length kc2) (w8.alloc (.cells #[.int .i64 y.key, .int .i64 y.time, .string (bs y.text)] 36)) := ⟨by omega, by rw [hnx]; exact own_bel HINN.out.row hba9, bel_next HINN.out.bel hba9, HINN.out.ent.below' hba9, own_bel HINN.out.recs hba9⟩
                have HST7 := hid hst7
                clear hst7 hba9 hnx hof hgl9 htl
                go_wp2_with fail
                go_roundw
                case rel => exact ⟨j + 1, by go_num, HST7.out⟩
                case measure => simp [intOf]; omega
            · obtain rfl : j = b.l.length := by omega
              have hrow9 := hin.row
              rw [List.take_length] at hrow9
              have hgl9 := gotsOf_len x.base off b.l
              have hmid9 : FetMid w1 s st off false r z (i + 1) (acc ++ gotsOf x.base off b.l) (x.base + b.len) (.slice ka2 (acc ++ gotsOf x.base off (b.l.take b.l.length)).length kc2) w8 := by rw [List.take_length]; exact ⟨by omega, hrow9, hin.bel, HGET2.out, by have := HM.out.len; rw [List.length_append]; omega⟩
              have HMID9 := hid hmid9
              clear hrow9 hgl9 hmid9 hin
              go_wp2_with fail
              go_roundw
              case rel => exact ⟨i + 1, _, _, by go_num, rfl, HMID9.out⟩
              case measure => simp [intOf]; omega
        | true =>
          by_cases hns : st ≤ x.base
          · have dns : decide (st ≤ x.base) = true := decide_eq_true hns
            have hz9 : z = (acc, next) := by
              have h9 := HGETS.out
              rw [PPart.gets, if_pos ⟨rfl, hns⟩] at h9
              exact h9.symm
            have HZ := hid hz9
            clear hz9 hns
            refine wp_region_lex (fun w' => w'.cell? ⟨wr.heap.size, 0, none⟩ = some (.int .i64 x.base)) [5] (by kernel_rfl) (by kernel_rfl) (fun _ _ _ _ _ h => h) (by exact q0) (fun hHeld => ?_)
            iterate 5
              refine lex_take (v := ?_) (by kernel_rfl) (by kernel_rfl) ?_ ?_
              rotate_left
              focus
                intro w' hSw
                try dsimp only at hSw
                go_simp <;> with_reducible rfl
              simp only [Act.put, List.setIfInBounds_toArray, List.set_cons_zero, List.set_cons_succ]
            refine lex_step (by kernel_rfl) (by kernel_rfl) (fun K hK => ?_)
            go_simp
            refine (HST.out _ (by exact HTW.out.below (Below.refl _ _).drew)).mono ?_
            rintro e w9 ⟨rfl, rfl⟩
            go_simp
            refine hK.out _ _ (by exact hHeld) (fun hHeld => ?_)
            clear hK K
            try simp only [Act.put, List.setIfInBounds_toArray, List.set_cons_zero, List.set_cons_succ]
            iterate 2
              refine lex_take (v := ?_) (by kernel_rfl) (by kernel_rfl) ?_ ?_
              rotate_left
              focus
                intro w' hSw
                try dsimp only at hSw
                go_simp <;> with_reducible rfl
              simp only [Act.put, List.setIfInBounds_toArray, List.set_cons_zero, List.set_cons_succ]
            refine lex_nil ?_
            go_wp2_with fail
            refine ⟨rfl, .tuple #[.slice ka acc.length kc, .int .i64 next, .int .i64 0], by simp [results, Tryz.results23, go_sem], ?_⟩
            rw [HR3.out, HZ.out]
            exact ⟨_, rfl, own_base (own_bel HROWW.out (Below.refl _ _).drew) HB1.out.size, bel_next HB1.out (bel_next HBW.out (Below.refl _ _).drew)⟩
          · have dns : decide (st ≤ x.base) = false := decide_eq_false hns
            have HNS := hid hns
            clear hns
            refine wp_region_lex (fun w' => w'.cell? ⟨wr.heap.size, 0, none⟩ = some (.int .i64 x.base)) [5] (by kernel_rfl) (by kernel_rfl) (fun _ _ _ _ _ h => h) (by exact q0) (fun hHeld => ?_)
            iterate 5
              refine lex_take (v := ?_) (by kernel_rfl) (by kernel_rfl) ?_ ?_
              rotate_left
              focus
                intro w' hSw
                try dsimp only at hSw
                go_simp <;> with_reducible rfl
              simp only [Act.put, List.setIfInBounds_toArray, List.set_cons_zero, List.set_cons_succ]
            refine lex_step (by kernel_rfl) (by kernel_rfl) (fun K hK => ?_)
            go_simp
            refine (HST.out _ (by exact HTW.out.below (Below.refl _ _).drew)).mono ?_
            rintro e w9 ⟨rfl, rfl⟩
            go_simp
            refine hK.out _ _ (by exact hHeld) (fun hHeld => ?_)
            clear hK K
            try simp only [Act.put, List.setIfInBounds_toArray, List.set_cons_zero, List.set_cons_succ]
            iterate 2
              refine lex_take (v := ?_) (by kernel_rfl) (by kernel_rfl) ?_ ?_
              rotate_left
              focus
                intro w' hSw
                try dsimp only at hSw
                go_simp <;> with_reducible rfl
              simp only [Act.put, List.setIfInBounds_toArray, List.set_cons_zero, List.set_cons_succ]
            refine lex_nil ?_
            clear hHeld dns
            have HTW3 := hid (HTW.out.below (Below.refl _ _).drew)
            have HBW3 := hid (bel_next HBW.out (Below.refl _ _).drew)
            have HROWW3 := hid (own_bel HROWW.out (Below.refl _ _).drew)
            have HBE3 := hid (HBE.out.below' (Below.refl _ _).drew)
            clear HTW HBW HROWW HBE q0
            generalize w2.drew = w3 at HTW3 HBW3 HROWW3 HBE3 ⊢
            have HT3 := hid HTW3.out
            have q0 := HBE3.out.cell (i := 0) (v := .int .i64 x.base) rfl
            have q1 := HBE3.out.cell (i := 1) (v := .int .i64 b.len) rfl
            have q2 := HBE3.out.cell (i := 2) (v := .string (bs x.text)) rfl
            have hn2 : 0 ≤ x.base + b.len ∧ x.base + b.len ≤ 2199023255552 := by omega
            go_wp2_with fail
            refine (bDecode_any HB.out (by omega) _).mono ?_
            rintro e w4 ⟨KR, rfl, hrow4, hb4⟩
            unfold PBat.val
            obtain ⟨ra, rc, rfl⟩ := row_slice hrow4
            have hbb : Below w4.heap.size w4 (w4.alloc (.cells #[.int .i64 b.kind, .int .i64 b.pid, .int .i64 b.epoch, .int .i64 b.seq, .slice ra b.l.length rc] 31)) := bel_alloc (Below.refl _ _) _
            have HBB := hid (Blk.new w4 #[.int .i64 b.kind, .int .i64 b.pid, .int .i64 b.epoch, .int .i64 b.seq, .slice ra b.l.length rc] 31)
            have HTB := hid ((HT3.out.below hb4).below hbb)
            have HBWB := hid (bel_next (bel_next HBW3.out hb4) hbb)
            have HROWB := hid (own_bel (own_bel HROWW3.out hb4) hbb)
            have HBEB := hid ((HBE3.out.below' hb4).below' hbb)
            have HRECB := hid (own_bel (own_base hrow4 (Nat.zero_le _)) hbb)
            clear hrow4 hb4 hbb HTW3 HT3 HBW3 HROWW3 HBE3 q0 q1 q2
            by_cases hk2 : b.kind = 2
            · have dk1 : decide (b.kind = 2) = true := decide_eq_true hk2
              have dk2 : (b.kind == 2) = true := by simpa using hk2
              have q0 := HBEB.out.cell (i := 0) (v := .int .i64 x.base) rfl
              have hout := paOut_any b.pid x.base HTB.out.obj (Nat.le_trans HSM.out.gl (by decide))
              have HOUT := hid hout
              clear hout
              cases hov : s.out b.pid x.base with
              | true =>
                rw [hov] at HOUT
                have HGET2 : Hid (s.gets st off true (r.drop (i + 1)) (acc, x.base + b.len) = z) := hid (by
                  have h9 := HGETS.out
                  rw [PPart.gets, if_neg (fun h8 => absurd h8.2 (by have h7 := HNS.out; omega)), HB.out] at h9
                  dsimp only at h9
                  rw [if_pos ⟨rfl, hk2, hov⟩, HBN.out] at h9
                  exact h9)
                clear HGETS hov hk2
                go_wp2_with fail
                refine HOUT.out.mono ?_
                rintro e w6 ⟨rfl, hb6⟩
                have HROW6 := hid (own_bel HROWB.out hb6)
                have HB6 := hid (bel_next HBWB.out hb6)
                clear hb6 HOUT q0
                go_wp2_with fail
                go_roundw
                case rel => exact ⟨i + 1, acc, x.base + b.len, by go_num, rfl, ⟨by omega, HROW6.out, HB6.out, HGET2.out, by have := HM.out.len; omega⟩⟩
                case measure => simp [intOf]; omega
              | false =>
                rw [hov] at HOUT
                have HGET2 : Hid (s.gets st off true (r.drop (i + 1)) (acc ++ gotsOf x.base off b.l, x.base + b.len) = z) := hid (by
                  have h9 := HGETS.out
                  rw [PPart.gets, if_neg (fun h8 => absurd h8.2 (by have h7 := HNS.out; omega)), HB.out] at h9
                  dsimp only at h9
                  rw [if_neg (by rw [hov]; simp), HBN.out] at h9
                  exact h9)
                clear HGETS hov hk2
                go_wp2_with fail
                refine HOUT.out.mono ?_
                rintro e w6 ⟨rfl, hb6⟩
                have HBB6 := hid (HBB.out.below' hb6)
                have t4 := HBB6.out.cell (i := 4) (v := .slice ra b.l.length rc) rfl
                have HROWB6 := hid (own_bel HROWB.out hb6)
                have HBWB6 := hid (bel_next HBWB.out hb6)
                have HBEB6 := hid (HBEB.out.below' hb6)
                have HRECB6 := hid (own_bel HRECB.out hb6)
                clear hb6 HOUT q0 HTB HBB HROWB HBWB HBEB HRECB
                go_wp2_with fail
                have hin : FetIn w1 x.base off b acc #[.int .i64 x.base, .int .i64 b.len, .string (bs x.text)] wr.heap.size (.slice ra b.l.length rc) 0 (.slice ka acc.length kc) w6 := ⟨Nat.zero_le _, by simpa [gotsOf] using HROWB6.out, HBWB6.out, HBEB6.out, HRECB6.out⟩
                have HIN := hid hin
                clear hin HROWB6 HBWB6 HBEB6 HRECB6 t4
                go_loopw [13, 79] (fun K c w8 => ∃ (j : Nat), c = .int .i64 j ∧ FetIn w1 x.base off b acc #[.int .i64 x.base, .int .i64 b.len, .string (bs x.text)] wr.heap.size (.slice ra b.l.length rc) j K w8) (fun _ c _ => b.l.length - (intOf c).toNat)
                case atStart => exact ⟨0, rfl, HIN.out⟩
                case round =>
                  obtain ⟨j, rfl, hin⟩ := hrel
                  obtain ⟨ka2, kc2, rfl⟩ := row_slice hin.row
                  have hjl := hin.le
                  rename World => w8
                  by_cases hjt : j < b.l.length
                  · obtain ⟨y, hy⟩ : ∃ y, b.l[j]? = some y := ⟨_, List.getElem?_eq_getElem hjt⟩
                    obtain ⟨g9, rfl⟩ : ∃ g, ra = some ⟨g, 0, none⟩ := by
                      rcases Joins.ownsRow_forms hin.recs with ⟨e9, hz⟩ | ⟨g, cap, e9⟩
                      · omega
                      · injection e9 with e9 _ _
                        exact ⟨g, e9⟩
                    obtain ⟨y0, y1, y2⟩ := RecRead.own hin.recs j y hy
                    have hg9 := (hin.recs.lt g9 rfl).2
                    have hgn9 : g9 ≠ w8.heap.size := by omega
                    have hebl := hin.ent.lt
                    have hen : wr.heap.size ≠ w8.heap.size := by omega
                    have p0 := hin.ent.cell (i := 0) (v := .int .i64 x.base) rfl
                    have hj0 : (0 : Int) ≤ (j : Int) := by omega
                    have hj1 : (j : Int) < (b.l.length : Int) := by omega
                    have hj2 : (j : Int) ≤ 64 := by omega
                    have hbj : 0 ≤ x.base + (j : Int) ∧ x.base + (j : Int) ≤ 2199023255552 := by omega
                    have hnx := gotsOf_next (base := x.base) (off := off) hy
                    have hacc := HM.out.len
                    have hgl9 := gotsOf_len x.base off (b.l.take j)
                    have htl : (b.l.take j).length = j := by rw [List.length_take]; omega
                    have HINN := hid hin
                    clear hin hy
                    by_cases hof : off ≤ x.base + (j : Int)
                    · rw [if_pos hof] at hnx
                      have HNX := hid hnx
                      have dof : decide (off ≤ x.base + (j : Int)) = true := decide_eq_true hof
                      have hle9 : (acc ++ gotsOf x.base off (b.l.take j)).length ≤ 10000 := by rw [List.length_append]; omega
                      have hba9 : Below w8.heap.size w8 (w8.alloc (.cells #[.int .i64 y.key, .int .i64 y.time, .string (bs y.text)] 36)) := bel_alloc (Below.refl _ _) _
                      have HROW9 := hid (own_bel HINN.out.row hba9)
                      have HB9 := hid (bel_next HINN.out.bel hba9)
                      have HENT9 := hid (HINN.out.ent.below' hba9)
                      have HREC9 := hid (own_bel HINN.out.recs hba9)
                      clear hnx hba9 hgl9 htl hof
                      generalize hal : (acc ++ gotsOf x.base off (b.l.take j)).length = n9 at HROW9 hle9 ⊢
                      have HAL := hid hal
                      clear hal
                      go_wp2_with (at_builtin; refine wpList_append_own _ rfl _ _ 34 rfl w1.heap.size 38 i1 (.agg #[.int .i64 0, .int .i64 0, .int .i64 0, .string ⟨#[]⟩]) 4 40 Tryz.underlying34 hi1 hy0 hy1 hy2 rfl (by decide) _ _ _ rfl (HROW9.out.alloc _) ⟨w8.heap.size + 1, 0, none⟩ 1 1 [.int .i64 (x.base + (j : Int)), .int .i64 y.key, .int .i64 y.time, .string (bs y.text)] rfl rfl ?c1 ?c2 ?c3 ?c4 ?c5 ?_)
                      case c1 =>
                        intro k u hk
                        have h9 := blk_next w8 (.cells #[.int .i64 y.key, .int .i64 y.time, .string (bs y.text)] 36) #[.int .i64 (x.base + (j : Int)), .int .i64 y.key, .int .i64 y.time, .string (bs y.text)] 38
                        have e9 : (⟨w8.heap.size + 1, 0, none⟩ : Addr).add k = ⟨w8.heap.size + 1, k, none⟩ := by
                          cases k with
                          | zero => simp [Addr.add]
                          | succ k => simp [Addr.add]
                        rw [e9]
                        refine h9.cell ?_
                        rw [List.getElem?_toArray]
                        exact hk
                      case c2 => simp [Value.oneCell']
                      case c3 => unfold maxLen; omega
                      case c4 => omega
                      case c5 => have := HB9.out.size; simp at this ⊢; omega
                      intro v7 w7 hown7 hgrow7 _
                      have hn6 := own_not HROW9.out HENT9.out (show 103 ≠ 38 by decide)
                      have hent7 := (HENT9.out.alloc (.cells #[.int .i64 (x.base + (j : Int)), .int .i64 y.key, .int .i64 y.time, .string (bs y.text)] 38)).grown hgrow7 hn6
                      have hrec7 := row_fr (HREC9.out.alloc (.cells #[.int .i64 (x.base + (j : Int)), .int .i64 y.key, .int .i64 y.time, .string (bs y.text)] 38)) (fr_grown hgrow7) (fun k hk h9 => row_two HREC9.out HROW9.out (show 36 ≠ 38 by decide) hk h9)
                      have hb7 : Below w1.heap.size w1 w7 := bel_append (bel_alloc HB9.out _) (HROW9.out.alloc _) (by have := HB9.out.size; simp at this ⊢; omega) hgrow7
                      have htk : gotCells (acc ++ gotsOf x.base off (b.l.take (j + 1))) = gotCells (acc ++ gotsOf x.base off (b.l.take j)) ++ [.int .i64 (x.base + (j : Int)), .int .i64 y.key, .int .i64 y.time, .string (bs y.text)] := by
                        rw [HNX.out, ← List.append_assoc, gotCells_app]
                        simp [gotCells, PGot.cells]
                      have hln : (acc ++ gotsOf x.base off (b.l.take (j + 1))).length = n9 + 1 := by
                        rw [HNX.out, ← List.append_assoc, List.length_append, HAL.out]; rfl
                      rw [← htk, ← hln] at hown7
                      obtain ⟨va7, vc7, rfl⟩ := row_slice hown7
                      have HST7 : Hid (FetIn w1 x.base off b acc #[.int .i64 x.base, .int .i64 b.len, .string (bs x.text)] wr.heap.size (.slice (some ⟨g9, 0, none⟩) b.l.length rc) (j + 1) (.slice va7 (acc ++ gotsOf x.base off (b.l.take (j + 1))).length vc7) w7) := hid ⟨by omega, hown7, hb7, hent7, hrec7⟩
                      clear hown7 hgrow7 hn6 hent7 hrec7 hb7 htk HINN HROW9 HB9 HENT9 HREC9
                      go_wp2_with fail
                      go_roundw
                      case rel => exact ⟨j + 1, by go_num, HST7.out⟩
                      case measure => simp [intOf]; omega
                    · rw [if_neg hof, List.append_nil] at hnx
                      have dof : decide (off ≤ x.base + (j : Int)) = false := decide_eq_false hof
                      have hba9 : Below w8.heap.size w8 (w8.alloc (.cells #[.int .i64 y.key, .int .i64 y.time, .string (bs y.text)] 36)) := bel_alloc (Below.refl _ _) _
                      have hst7 : FetIn w1 x.base off b acc #[.int .i64 x.base, .int .i64 b.len, .string (bs x.text)] wr.heap.size (.slice (some ⟨g9, 0, none⟩) b.l.length rc) (j + 1) (.slice ka2 (acc ++ gotsOf x.base off (b.l.take j)).length kc2) (w8.alloc (.cells #[.int .i64 y.key, .int .i64 y.time, .string (bs y.text)] 36)) := ⟨by omega, by rw [hnx]; exact own_bel HINN.out.row hba9, bel_next HINN.out.bel hba9, HINN.out.ent.below' hba9, own_bel HINN.out.recs hba9⟩
                      have HST7 := hid hst7
                      clear hst7 hba9 hnx hof hgl9 htl
                      go_wp2_with fail
                      go_roundw
                      case rel => exact ⟨j + 1, by go_num, HST7.out⟩
                      case measure => simp [intOf]; omega
                  · obtain rfl : j = b.l.length := by omega
                    have hrow9 := hin.row
                    rw [List.take_length] at hrow9
                    have hgl9 := gotsOf_len x.base off b.l
                    have hmid9 : FetMid w1 s st off true r z (i + 1) (acc ++ gotsOf x.base off b.l) (x.base + b.len) (.slice ka2 (acc ++ gotsOf x.base off (b.l.take b.l.length)).length kc2) w8 := by rw [List.take_length]; exact ⟨by omega, hrow9, hin.bel, HGET2.out, by have := HM.out.len; rw [List.length_append]; omega⟩
                    have HMID9 := hid hmid9
                    clear hrow9 hgl9 hmid9 hin
                    go_wp2_with fail
                    go_roundw
                    case rel => exact ⟨i + 1, _, _, by go_num, rfl, HMID9.out⟩
                    case measure => simp [intOf]; omega
            · have HGET2 : Hid (s.gets st off true (r.drop (i + 1)) (acc ++ gotsOf x.base off b.l, x.base + b.len) = z) := hid (by
                have h9 := HGETS.out
                rw [PPart.gets, if_neg (fun h8 => absurd h8.2 (by have h7 := HNS.out; omega)), HB.out] at h9
                dsimp only at h9
                rw [if_neg (fun h8 => hk2 h8.2.1), HBN.out] at h9
                exact h9)
              have dk1 : decide (b.kind = 2) = false := decide_eq_false hk2
              have dk2 : (b.kind == 2) = false := by simpa using hk2
              clear HGETS hk2
              go_wp2_with fail
              generalize w4.alloc (.cells #[.int .i64 b.kind, .int .i64 b.pid, .int .i64 b.epoch, .int .i64 b.seq, .slice ra b.l.length rc] 31) = w5 at HBB HTB HBWB HROWB HBEB HRECB ⊢
              have t4 := HBB.out.cell (i := 4) (v := .slice ra b.l.length rc) rfl
              have hin : FetIn w1 x.base off b acc #[.int .i64 x.base, .int .i64 b.len, .string (bs x.text)] wr.heap.size (.slice ra b.l.length rc) 0 (.slice ka acc.length kc) w5 := ⟨Nat.zero_le _, by simpa [gotsOf] using HROWB.out, HBWB.out, HBEB.out, HRECB.out⟩
              have HIN := hid hin
              clear hin HROWB HBWB HBEB HRECB t4
              go_loopw [13, 79] (fun K c w8 => ∃ (j : Nat), c = .int .i64 j ∧ FetIn w1 x.base off b acc #[.int .i64 x.base, .int .i64 b.len, .string (bs x.text)] wr.heap.size (.slice ra b.l.length rc) j K w8) (fun _ c _ => b.l.length - (intOf c).toNat)
              case atStart => exact ⟨0, rfl, HIN.out⟩
              case round =>
                obtain ⟨j, rfl, hin⟩ := hrel
                obtain ⟨ka2, kc2, rfl⟩ := row_slice hin.row
                have hjl := hin.le
                rename World => w8
                by_cases hjt : j < b.l.length
                · obtain ⟨y, hy⟩ : ∃ y, b.l[j]? = some y := ⟨_, List.getElem?_eq_getElem hjt⟩
                  obtain ⟨g9, rfl⟩ : ∃ g, ra = some ⟨g, 0, none⟩ := by
                    rcases Joins.ownsRow_forms hin.recs with ⟨e9, hz⟩ | ⟨g, cap, e9⟩
                    · omega
                    · injection e9 with e9 _ _
                      exact ⟨g, e9⟩
                  obtain ⟨y0, y1, y2⟩ := RecRead.own hin.recs j y hy
                  have hg9 := (hin.recs.lt g9 rfl).2
                  have hgn9 : g9 ≠ w8.heap.size := by omega
                  have hebl := hin.ent.lt
                  have hen : wr.heap.size ≠ w8.heap.size := by omega
                  have p0 := hin.ent.cell (i := 0) (v := .int .i64 x.base) rfl
                  have hj0 : (0 : Int) ≤ (j : Int) := by omega
                  have hj1 : (j : Int) < (b.l.length : Int) := by omega
                  have hj2 : (j : Int) ≤ 64 := by omega
                  have hbj : 0 ≤ x.base + (j : Int) ∧ x.base + (j : Int) ≤ 2199023255552 := by omega
                  have hnx := gotsOf_next (base := x.base) (off := off) hy
                  have hacc := HM.out.len
                  have hgl9 := gotsOf_len x.base off (b.l.take j)
                  have htl : (b.l.take j).length = j := by rw [List.length_take]; omega
                  have HINN := hid hin
                  clear hin hy
                  by_cases hof : off ≤ x.base + (j : Int)
                  · rw [if_pos hof] at hnx
                    have HNX := hid hnx
                    have dof : decide (off ≤ x.base + (j : Int)) = true := decide_eq_true hof
                    have hle9 : (acc ++ gotsOf x.base off (b.l.take j)).length ≤ 10000 := by rw [List.length_append]; omega
                    have hba9 : Below w8.heap.size w8 (w8.alloc (.cells #[.int .i64 y.key, .int .i64 y.time, .string (bs y.text)] 36)) := bel_alloc (Below.refl _ _) _
                    have HROW9 := hid (own_bel HINN.out.row hba9)
                    have HB9 := hid (bel_next HINN.out.bel hba9)
                    have HENT9 := hid (HINN.out.ent.below' hba9)
                    have HREC9 := hid (own_bel HINN.out.recs hba9)
                    clear hnx hba9 hgl9 htl hof
                    generalize hal : (acc ++ gotsOf x.base off (b.l.take j)).length = n9 at HROW9 hle9 ⊢
                    have HAL := hid hal
                    clear hal
                    go_wp2_with (at_builtin; refine wpList_append_own _ rfl _ _ 34 rfl w1.heap.size 38 i1 (.agg #[.int .i64 0, .int .i64 0, .int .i64 0, .string ⟨#[]⟩]) 4 40 Tryz.underlying34 hi1 hy0 hy1 hy2 rfl (by decide) _ _ _ rfl (HROW9.out.alloc _) ⟨w8.heap.size + 1, 0, none⟩ 1 1 [.int .i64 (x.base + (j : Int)), .int .i64 y.key, .int .i64 y.time, .string (bs y.text)] rfl rfl ?c1 ?c2 ?c3 ?c4 ?c5 ?_)
                    case c1 =>
                      intro k u hk
                      have h9 := blk_next w8 (.cells #[.int .i64 y.key, .int .i64 y.time, .string (bs y.text)] 36) #[.int .i64 (x.base + (j : Int)), .int .i64 y.key, .int .i64 y.time, .string (bs y.text)] 38
                      have e9 : (⟨w8.heap.size + 1, 0, none⟩ : Addr).add k = ⟨w8.heap.size + 1, k, none⟩ := by
                        cases k with
                        | zero => simp [Addr.add]
                        | succ k => simp [Addr.add]
                      rw [e9]
                      refine h9.cell ?_
                      rw [List.getElem?_toArray]
                      exact hk
                    case c2 => simp [Value.oneCell']
                    case c3 => unfold maxLen; omega
                    case c4 => omega
                    case c5 => have := HB9.out.size; simp at this ⊢; omega
                    intro v7 w7 hown7 hgrow7 _
                    have hn6 := own_not HROW9.out HENT9.out (show 103 ≠ 38 by decide)
                    have hent7 := (HENT9.out.alloc (.cells #[.int .i64 (x.base + (j : Int)), .int .i64 y.key, .int .i64 y.time, .string (bs y.text)] 38)).grown hgrow7 hn6
                    have hrec7 := row_fr (HREC9.out.alloc (.cells #[.int .i64 (x.base + (j : Int)), .int .i64 y.key, .int .i64 y.time, .string (bs y.text)] 38)) (fr_grown hgrow7) (fun k hk h9 => row_two HREC9.out HROW9.out (show 36 ≠ 38 by decide) hk h9)
                    have hb7 : Below w1.heap.size w1 w7 := bel_append (bel_alloc HB9.out _) (HROW9.out.alloc _) (by have := HB9.out.size; simp at this ⊢; omega) hgrow7
                    have htk : gotCells (acc ++ gotsOf x.base off (b.l.take (j + 1))) = gotCells (acc ++ gotsOf x.base off (b.l.take j)) ++ [.int .i64 (x.base + (j : Int)), .int .i64 y.key, .int .i64 y.time, .string (bs y.text)] := by
                      rw [HNX.out, ← List.append_assoc, gotCells_app]
                      simp [gotCells, PGot.cells]
                    have hln : (acc ++ gotsOf x.base off (b.l.take (j + 1))).length = n9 + 1 := by
                      rw [HNX.out, ← List.append_assoc, List.length_append, HAL.out]; rfl
                    rw [← htk, ← hln] at hown7
                    obtain ⟨va7, vc7, rfl⟩ := row_slice hown7
                    have HST7 : Hid (FetIn w1 x.base off b acc #[.int .i64 x.base, .int .i64 b.len, .string (bs x.text)] wr.heap.size (.slice (some ⟨g9, 0, none⟩) b.l.length rc) (j + 1) (.slice va7 (acc ++ gotsOf x.base off (b.l.take (j + 1))).length vc7) w7) := hid ⟨by omega, hown7, hb7, hent7, hrec7⟩
                    clear hown7 hgrow7 hn6 hent7 hrec7 hb7 htk HINN HROW9 HB9 HENT9 HREC9
                    go_wp2_with fail
                    go_roundw
                    case rel => exact ⟨j + 1, by go_num, HST7.out⟩
                    case measure => simp [intOf]; omega
                  · rw [if_neg hof, List.append_nil] at hnx
                    have dof : decide (off ≤ x.base + (j : Int)) = false := decide_eq_false hof
                    have hba9 : Below w8.heap.size w8 (w8.alloc (.cells #[.int .i64 y.key, .int .i64 y.time, .string (bs y.text)] 36)) := bel_alloc (Below.refl _ _) _
                    have hst7 : FetIn w1 x.base off b acc #[.int .i64 x.base, .int .i64 b.len, .string (bs x.text)] wr.heap.size (.slice (some ⟨g9, 0, none⟩) b.l.length rc) (j + 1) (.slice ka2 (acc ++ gotsOf x.base off (b.l.take j)).length kc2) (w8.alloc (.cells #[.int .i64 y.key, .int .i64 y.time, .string (bs y.text)] 36)) := ⟨by omega, by rw [hnx]; exact own_bel HINN.out.row hba9, bel_next HINN.out.bel hba9, HINN.out.ent.below' hba9, own_bel HINN.out.recs hba9⟩
                    have HST7 := hid hst7
                    clear hst7 hba9 hnx hof hgl9 htl
                    go_wp2_with fail
                    go_roundw
                    case rel => exact ⟨j + 1, by go_num, HST7.out⟩
                    case measure => simp [intOf]; omega
                · obtain rfl : j = b.l.length := by omega
                  have hrow9 := hin.row
                  rw [List.take_length] at hrow9
                  have hgl9 := gotsOf_len x.base off b.l
                  have hmid9 : FetMid w1 s st off true r z (i + 1) (acc ++ gotsOf x.base off b.l) (x.base + b.len) (.slice ka2 (acc ++ gotsOf x.base off (b.l.take b.l.length)).length kc2) w8 := by rw [List.take_length]; exact ⟨by omega, hrow9, hin.bel, HGET2.out, by have := HM.out.len; rw [List.length_append]; omega⟩
                  have HMID9 := hid hmid9
                  clear hrow9 hgl9 hmid9 hin
                  go_wp2_with fail
                  go_roundw
                  case rel => exact ⟨i + 1, _, _, by go_num, rfl, HMID9.out⟩
                  case measure => simp [intOf]; omega
      · obtain rfl : i = r.length := by omega
        have hz9 : z = (acc, next) := by
          have h9 := hmid.gets
          rw [List.drop_length, PPart.gets] at h9
          exact h9.symm
        have HZ := hid hz9
        have HM := hid hmid
        clear hz9 hmid
        go_wp2_with fail
        refine ⟨rfl, .tuple #[.slice ka acc.length kc, .int .i64 next, .int .i64 0], by simp [results, Tryz.results23, go_sem], ?_⟩
        rw [HR3.out, HZ.out]
        exact ⟨_, rfl, own_base HM.out.row HB1.out.size, bel_next HB1.out HM.out.bel⟩
  · have hz1 : (c1 != 0) = true := by simpa using hc1
    have hz2 : decide (c1 = 0) = false := decide_eq_false hc1
    have HR2 := hid (HRR.out.symm.trans (if_pos hc1))
    clear HRR hc1
    go_wp2_with fail
    refine ⟨rfl, .tuple #[.slice none 0 0, .int .i64 0, .int .i64 c1], by simp [results, Tryz.results23, go_sem], ?_⟩
    rw [HR2.out]
    exact ⟨_, rfl, World.ownsRow_nil _ _ _ _, HB1.out⟩
end Go.Proofs.YtgjkjkeeblbjlaaGreatDoor
