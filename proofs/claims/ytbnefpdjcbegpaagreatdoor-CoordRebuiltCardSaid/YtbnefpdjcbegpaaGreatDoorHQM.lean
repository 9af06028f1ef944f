/-
  coord: Open, on a log whose notes fit: the walk. Conditions: numbers that fit.
  Chapter 13's laws: fresh, awake, and a coordinator that is none: the walks. No conditions.
-/
import Derived.Test.YtbnefpdjcbegpaaGreatDoorHPM
import Derived.Test.YtbnefpdjcbegpaaGreatDoorHNM
import Derived.Test.YtbnefpdjcbegpaaGreatDoorGLM
import Derived.Test.YtbnefpdjcbegpaaGreatDoorGGM
import Derived.Laws.Cover3
set_option maxRecDepth 100000
namespace Go.Proofs.YtbnefpdjcbegpaaGreatDoor
open Go.RowKit

theorem chain_ends {b : Int} {l : List Ent} (h : Chain b l) (k : Nat) : (b ≤ endOf b (l.take k)) ∧ ∀ j, k < j → k < l.length → endOf b (l.take k) < endOf b (l.take j) := by
  have hs := List.take_append_drop k l
  have hc2 := h
  rw [← hs] at hc2
  have h1 := (Chain.app.1 hc2).1.le
  refine ⟨h1, fun j hj hk => ?_⟩
  have e : l.take j = l.take k ++ (l.drop k).take (j - k) := by
    rw [List.take_drop]
    have h9 := List.take_append_drop k (l.take j)
    rw [List.take_take, Nat.min_eq_left (by omega)] at h9
    rw [show k + (j - k) = j by omega]
    exact h9.symm
  have hc3 : Chain b (l.take j) := by
    have hs' := List.take_append_drop j l
    have hc4 := h
    rw [← hs'] at hc4
    exact (Chain.app.1 hc4).1
  rw [e] at hc3 ⊢
  have h3 := (Chain.app.1 hc3).2.lt (by intro h9; have := congrArg List.length h9; simp at this; omega)
  rw [endOf_app]
  exact h3

theorem Notes.replay_at {σ : Type} (P : Notes σ) {all : List Ent} {s0 s : σ} (h : P.replay all s0 = some s) {i : Nat} {x : Ent} (hx : all[i]? = some x) {s1 : σ} (h1 : P.replay (all.take i) s0 = some s1) :
    ∃ s2, P.step x s1 = some s2 ∧ P.replay (all.take (i + 1)) s0 = some s2 := by
  have ht : all.take (i + 1) = all.take i ++ [x] := by rw [List.take_add_one, hx]; rfl
  have hs : all = all.take (i + 1) ++ all.drop (i + 1) := (List.take_append_drop _ _).symm
  rw [hs, P.replay_app] at h
  rw [ht, P.replay_app, h1] at h ⊢
  have e : (some s1).bind (P.replay [x]) = P.step x s1 := P.replay_one x s1
  rw [e] at h ⊢
  cases h2 : P.step x s1 with
  | none => rw [h2] at h; cases h
  | some s2 => exact ⟨s2, rfl, rfl⟩

/-- A thing made behind w1, while its Open goes on. -/
structure TMid {ω : Type} (X : Thing ω) (w1 : World) (S : Nat → Prop) (O1 : ω) (wr : World) : Prop where
  obj : X.held wr S O1
  s : ∀ k, S k → w1.heap.size ≤ k
  bel : Below w1.heap.size w1 wr

section
variable {ω : Type} {X : Thing ω}

theorem TMid.below {w1 : World} {S : Nat → Prop} {O1 : ω} {wr w2 : World} (h : TMid X w1 S O1 wr) (hb : Below wr.heap.size wr w2) : TMid X w1 S O1 w2 := ⟨Thing.below h.obj hb, h.s, bel_next h.bel hb⟩

theorem TMid.turn {w1 : World} {S S2 : Nat → Prop} {O1 O2 : ω} {wr w2 : World} (h : TMid X w1 S O1 wr) (ho : X.held w2 S2 O2) (hf : Fr S wr w2) (hs : ∀ k, S2 k → S k ∨ w1.heap.size ≤ k) : TMid X w1 S2 O2 w2 := by
  have hsz := h.bel.size
  refine ⟨ho, fun k hk => ?_, h.bel.trans (hf.to_below hsz (fun k hk h9 => by have := h.s k h9; omega))⟩
  rcases hs k hk with h9 | h9
  · exact h.s k h9
  · exact h9

theorem TMid.row {w1 : World} {S : Nat → Prop} {O1 : ω} {wr w2 : World} (h : TMid X w1 S O1 wr) (hf : Fr S wr w2) {base : Nat} {e : TypeId} {size : Nat} {v : Value} {n : Nat} {xs : List Value} (hr : wr.ownsRow base e size v n xs) (h1 : e ∉ X.types) : w2.ownsRow base e size v n xs := by
  refine row_fr hr hf (fun k hk h9 => ?_)
  obtain ⟨c, hc⟩ := row_blk9 hr hk
  obtain ⟨c2, T, h2, hT⟩ := X.kind h.obj h9
  have := (hc.inj h2).2
  subst this
  exact h1 hT

theorem TMid.blk {w1 : World} {S : Nat → Prop} {O1 : ω} {wr w2 : World} (h : TMid X w1 S O1 wr) (hf : Fr S wr w2) {b : Nat} {c : Array Value} {T : TypeId} (hb : Blk wr b c T) (h1 : T ∉ X.types) : Blk w2 b c T := by
  refine hb.fr hf (fun h9 => ?_)
  obtain ⟨c2, T2, h2, hT⟩ := X.kind h.obj h9
  have := (hb.inj h2).2
  subst this
  exact h1 hT
end

def PCo.new (rows : List PTr) (due : List Int) : PCo := ⟨rows, due, 0⟩
def due10 : List Int := [10, 10, 10, 10, 10, 10, 10, 10, 10]

def dueTo (j : Nat) : List Int := List.replicate j 10 ++ List.replicate (9 - j) 0
theorem dueTo_set : ∀ j, j < 9 → (dueTo j).set j 10 = dueTo (j + 1) := by decide

/-- What Open leaves, of a log whose notes fit. -/
def CoOpenPost (w : World) (d : Nat) (SD : Nat → Prop) (rows : List PTr) (L : PLog) (D : PDisk) (e : Ending) (w' : World) : Prop :=
  ∃ (c l : Nat) (S SL SD' : Nat → Prop), e = .returned (.tuple #[.pointer (some ⟨c, 0, none⟩), .int .i64 0]) ∧ Trio (coThing c l) w' l d S SL SD' (PCo.new rows due10) L D ∧ Fr SD w w' ∧ (∀ k, S k → w.heap.size ≤ k) ∧ (∀ k, SL k → w.heap.size ≤ k) ∧ (∀ k, SD' k → SD k ∨ w.heap.size ≤ k)

set_option maxHeartbeats 8000000 in
theorem coOpen_good {w : World} {d : Nat} {SD : Nat → Prop} {D D3 : PDisk} {N : Int} {A3 : ALog} {rows : List PTr} (hd : DiskAt w d SD D) (hw : D.WF N) (ho : D.openLog coName = (A3.toP, D3, 0)) (hg : NGood coNotes N rows A3 D3) :
    Calls Tryz.prog 25 #[.pointer (some ⟨d, 0, none⟩)] w (CoOpenPost w d SD rows A3.toP D3) := by
  obtain ⟨hs1, hs2, hs3⟩ := every_spec hg.inv hg.wf hg.off hg.e (most := 32) (by decide)
  have hi := hg.inv
  have hw3 := hg.wf
  have hwl := hi.wf hw3
  have hcnt := hi.count hw3
  have hf0 := hi.first
  have HFP := hid (fun off => hi.fetch_pos hw3 hg.off off)
  have hnx := hwl.next
  obtain ⟨hch, hend⟩ := hi.all_chain
  have hopen := open_any (N := N) ⟨#[116, 120, 110]⟩ hd hw (by decide)
  have htl : tl (⟨#[116, 120, 110]⟩ : ByteArray) = coName := rfl
  rw [htl, ho] at hopen
  unfold ptr at hopen
  have HOPEN := hid hopen
  have HS1 := hid hs1
  have HS2 := hid hs2
  have HS3 := hid hs3
  have HCH := hid hch
  have HW3 := hid hw3
  have HWL := hid hwl
  have HREP := hid (show coNotes.replay A3.all [] = some rows from hg.rep)
  have hnx1 : 0 ≤ A3.next := hnx.1
  have hnx2 : A3.next ≤ 1099511627776 := hnx.2
  clear hopen htl hs1 hs2 hs3 hch hend hi hw3 hwl hd hw ho hnx hg
  go_enter Tryz.func25, Tryz.ntmps25
  go_wp2_with fail
  refine HOPEN.out.mono ?_
  rintro e w1 (⟨h9, _⟩ | ⟨_, l, SL, SD1, rfl, hlog, hdisk, hfr, hsl, hsd⟩)
  · exact absurd rfl h9
  have HLOG := hid hlog
  have HDISK := hid hdisk
  have HFR := hid hfr
  have HSL := hid hsl
  have HSD := hid hsd
  unfold ptr
  clear hlog hdisk hfr hsl hsd HOPEN
  go_wp2_with fail
  have hst : TMid (coThing w1.heap.size l) w1 (fun k => k = w1.heap.size ∨ (Value.slice none 0 0).ownBlock = some k) (PCo.new [] (dueTo 0)) (w1.alloc (.cells #[.pointer (some ⟨l, 0, none⟩), .slice none 0 0, .int .i64 0, .int .i64 0, .int .i64 0, .int .i64 0, .int .i64 0, .int .i64 0, .int .i64 0, .int .i64 0, .int .i64 0, .int .i64 0] 66)) := by
    refine ⟨⟨.slice none 0 0, ⟨Blk.new _ _ _, World.ownsRow_nil _ _ _ _, rfl⟩, fun _ => Iff.rfl⟩, fun k hk => ?_, bel_alloc (Below.refl _ _) _⟩
    rcases hk with rfl | hk
    · exact Nat.le_refl _
    · cases hk
  have HST := hid hst
  clear hst
  generalize (fun k => k = w1.heap.size ∨ (Value.slice none 0 0).ownBlock = some k) = S0 at HST
  generalize w1.alloc (.cells #[.pointer (some ⟨l, 0, none⟩), .slice none 0 0, .int .i64 0, .int .i64 0, .int .i64 0, .int .i64 0, .int .i64 0, .int .i64 0, .int .i64 0, .int .i64 0, .int .i64 0, .int .i64 0] 66) = w3 at HST ⊢
  generalize hcc : w1.heap.size = c at HST ⊢
  refine (first_any (HLOG.out.below HST.out.bel)).mono ?_
  rintro e w4 ⟨rfl, rfl⟩
  have hf3 : A3.toP.first = A3.first := rfl
  have hn3 : A3.toP.next = A3.next := rfl
  rw [hf3]
  go_wp2_with fail
  go_loopw [7] (fun at' wr => ∃ (k : Nat) (S1 : Nat → Prop) (r1 : List PTr), k ≤ A3.all.length ∧ at' = .int .i64 (endOf A3.first (A3.all.take k)) ∧ TMid (coThing c l) w1 S1 (PCo.new r1 (dueTo 0)) wr ∧ coNotes.replay (A3.all.take k) [] = some r1)
    (fun at' _ => (A3.next - intOf at').toNat)
  case atStart => exact ⟨0, S0, _, Nat.zero_le _, by simp [endOf_nil], HST.out, rfl⟩
  case round =>
    obtain ⟨k, S1, O1, hk, rfl, hmid, hr1⟩ := hrel
    obtain ⟨g1, g2⟩ := HS3.out k
    have HMID := hid hmid
    have HR1 := hid hr1
    clear hmid hr1
    by_cases hlt : k < A3.all.length
    · have g5 := (HS2.out k hk).2 hlt
      have hq := HS1.out k hlt
      obtain ⟨r, hrr⟩ : ∃ r, (A3.all.drop k).take 32 = r := ⟨_, rfl⟩
      have hq9 : A3.toP.fetch D3 (endOf A3.first (A3.all.take k)) 32 = (r, 0) := by rw [hq, ← hrr]; rfl
      have hrl : 1 ≤ r.length ∧ r.length ≤ 32 ∧ k + r.length ≤ A3.all.length := by rw [← hrr, List.length_take, List.length_drop]; omega
      have hrx : ∀ i x, r[i]? = some x → A3.all[k + i]? = some x := by
        intro i x hx
        rw [← hrr, List.getElem?_take] at hx
        split at hx
        · rwa [List.getElem?_drop] at hx
        · cases hx
      have HRX := hid hrx
      have HQ := hid hq9
      obtain ⟨hrl1, hrl2, hrl3⟩ := hrl
      have hdl : decide (endOf A3.first (A3.all.take k) < A3.toP.next) = true := decide_eq_true g5
      have hgoal : endOf A3.first (A3.all.take k) < endOf A3.first (A3.all.take (k + r.length)) := (chain_ends HCH.out k).2 (k + r.length) (by omega) hlt
      have HGOAL := hid hgoal
      clear hq hq9 hrr hrx hgoal
      have HAT : Hid (∃ at0, endOf A3.first (A3.all.take k) = at0) := hid ⟨_, rfl⟩
      obtain ⟨at0, hat0⟩ := HAT.out
      rw [hat0] at hdl HQ HGOAL g1 g2 g5 ⊢
      go_wp2_with fail
      refine (next_any (HLOG.out.below HMID.out.bel)).mono ?_
      rintro e w5 ⟨rfl, rfl⟩
      go_wp2_with fail
      refine (fetch_any (N := N) at0 32 (HLOG.out.below HMID.out.bel) (HDISK.out.below HMID.out.bel) HW3.out HWL.out (HFP.out at0)).mono ?_
      rintro e w6 ⟨v, rfl, hrow, hb6⟩
      rw [HQ.out] at hrow
      rw [HQ.out]
      dsimp only at hrow ⊢
      obtain ⟨ge, ce, rfl⟩ : ∃ g cap, v = .slice (some ⟨g, 0, none⟩) r.length cap := by
        rcases Joins.ownsRow_forms hrow with ⟨_, hz⟩ | ⟨g, cap, rfl⟩
        · omega
        · exact ⟨g, cap, rfl⟩
      have hge := hrow.lt ge rfl
      obtain ⟨hge1, hge2⟩ := hge
      have HROW := hid hrow
      have HMID6 := hid (HMID.out.below hb6)
      clear hrow hb6 HMID
      go_wp2_with fail
      go_loopw [7, 43] (fun at' j wr => ∃ (i : Nat) (S1 : Nat → Prop) (r1 : List PTr), i ≤ r.length ∧ j = .int .i64 i ∧ at' = .int .i64 (endOf A3.first (A3.all.take (k + i))) ∧ TMid (coThing c l) w1 S1 (PCo.new r1 (dueTo 0)) wr ∧ coNotes.replay (A3.all.take (k + i)) [] = some r1 ∧
          wr.ownsRow 0 96 3 (.slice (some ⟨ge, 0, none⟩) r.length ce) r.length (entCells r)) (fun _ j _ => r.length - (intOf j).toNat)
      case atStart => exact ⟨0, S1, O1, Nat.zero_le _, rfl, by rw [Nat.add_zero, hat0], HMID6.out, HR1.out, own_base HROW.out (Nat.zero_le _)⟩
      case round =>
        rename Nat → Prop => S1'
        obtain ⟨i, S2, O2, hil, rfl, rfl, hmid, hr2, hrow⟩ := hrel
        have hi0' : (0 : Int) ≤ (i : Int) := by omega
        by_cases hil2 : i < r.length
        · have hi1' : (i : Int) < (r.length : Int) := by omega
          obtain ⟨x, hx⟩ : ∃ x, r[i]? = some x := ⟨_, List.getElem?_eq_getElem hil2⟩
          obtain ⟨O3, hstep, hr3⟩ := coNotes.replay_at HREP.out (HRX.out i x hx) hr2
          obtain ⟨hxn, nn, hno, hfo⟩ := coStep_some hstep
          obtain ⟨e0, e1, e2⟩ := entCells_at _ _ _ hx
          have c0 := (hrow.cellAt (i * 3) (by omega)).trans e0
          have c1 := (hrow.cellAt (i * 3 + 1) (by omega)).trans e1
          have c2 := (hrow.cellAt (i * 3 + 2) (by omega)).trans e2
          have hger := (hrow.lt ge rfl).2
          have hxok := HCH.out.ok x (List.mem_of_getElem? (HRX.out i x hx))
          have hxb0 : 0 ≤ x.base := hxok.1
          have hxb1 : x.base ≤ 1099511627776 := hxok.2.1
          have hxt : x.text.length ≤ 65536 := hxok.2.2.2.2
          have hnext : endOf A3.first (A3.all.take (k + (i + 1))) = x.base + 1 := by
            have ht : A3.all.take (k + (i + 1)) = A3.all.take (k + i) ++ [x] := by rw [← Nat.add_assoc, List.take_add_one, HRX.out i x hx]; rfl
            rw [ht, endOf_app]
            show x.base + x.n = _
            rw [hxn]
          have HNEXT := hid hnext
          rw [hxn] at c1
          have HDEC := hid (fun W => txDecode hno (by omega) W)
          have HFO := hid hfo
          have HR3 := hid hr3
          have HTR := hid (coRight hr2)
          have HM2 := hid hmid
          have HROW2 := hid hrow
          have hne9 : ge ≠ wr.heap.size := by omega
          clear hx hno hfo hr2 hr3 e0 e1 e2 hmid hrow hxok hnext hxn hstep
          have hba : Below wr.heap.size wr (wr.alloc (.cells #[.int .i64 x.base, .int .i64 1, .string (bs x.text)] 96)) := bel_alloc (Below.refl _ _) _
          have hbx := Blk.new wr #[.int .i64 x.base, .int .i64 1, .string (bs x.text)] 96
          have HM3 := hid (HM2.out.below hba)
          have HROW3 := hid (own_bel HROW2.out hba)
          have HBX := hid hbx
          clear hba hbx HM2 HROW2
          unfold TNote.val at HDEC
          go_wp2_with fail
          refine (HDEC.out _).mono ?_
          rintro e w7 ⟨rfl, hb7⟩
          have HBX7 := hid (HBX.out.below' hb7)
          have x0 : w7.cell? ⟨wr.heap.size, 0, none⟩ = some (.int .i64 x.base) := HBX7.out.cell rfl
          have x1 : w7.cell? ⟨wr.heap.size, 1, none⟩ = some (.int .i64 1) := HBX7.out.cell rfl
          have HM7 := hid (HM3.out.below hb7)
          have HROW7 := hid (own_bel HROW3.out hb7)
          unfold TNote.val
          have hba9 : Below w7.heap.size w7 (w7.alloc (.cells #[.int .i64 nn.kind, .int .i64 nn.pid, .int .i64 nn.parts] 68)) := bel_alloc (Below.refl _ _) _
          have HBN := hid (Blk.new w7 #[.int .i64 nn.kind, .int .i64 nn.pid, .int .i64 nn.parts] 68)
          have HBX8 := hid (HBX7.out.below' hba9)
          have HM8 := hid (HM7.out.below hba9)
          have HROW8 := hid (own_bel HROW7.out hba9)
          have x8 : (w7.alloc (.cells #[.int .i64 nn.kind, .int .i64 nn.pid, .int .i64 nn.parts] 68)).cell? ⟨wr.heap.size, 1, none⟩ = some (.int .i64 1) := HBX8.out.cell rfl
          clear hb7 HM3 HROW3 HBX HDEC HM7 HBX7 HROW7 x0 x1 hba9 hger
          go_wp2_with fail
          generalize w7.alloc (.cells #[.int .i64 nn.kind, .int .i64 nn.pid, .int .i64 nn.parts] 68) = w8 at HBN HBX8 HM8 HROW8 x8 ⊢
          generalize w7.heap.size = pn at HBN ⊢
          obtain ⟨rv, hrep, hS8⟩ := HM8.out.obj
          have y1 := hrep.c0.2
          have fc := hrep.hdr.free 1
          have n0 := HBN.out.cell (i := 0) (v := .int .i64 nn.kind) rfl
          have n1 := HBN.out.cell (i := 1) (v := .int .i64 nn.pid) rfl
          have n2 := HBN.out.cell (i := 2) (v := .int .i64 nn.parts) rfl
          have HFOLD : Hid (∀ W, Below w8.heap.size w8 W → Calls Tryz.prog 47 #[rv, .agg #[.int .i64 nn.kind, .int .i64 nn.pid, .int .i64 nn.parts]] W fun e w' => ∃ v', e = .returned (.tuple #[v', .int .i64 0]) ∧ Below W.heap.size W w' ∧ w'.ownsRow W.heap.size 28 5 v' O3.length (trCells O3)) := hid (fun W hW => by
            have h9 := (txFold nn HTR.out (own_bel hrep.rows hW)).mono fun _ _ => FoldT.one
            rw [HFO.out] at h9
            exact h9.mono fun e w' ⟨v', h1, h2, h3⟩ => ⟨v', h1, h2, h3 rfl⟩)
          have HBC := hid hrep.hdr
          clear hrep hS8 x8
          go_region_with (refine (HFOLD.out _ (by exact (Below.refl _ _).drew)).mono ?_; rintro e w9 ⟨v9, rfl, hb9, hrow9⟩; have hbc9 := HBC.out.drew.below' hb9; have fc9 := hbc9.free 1; have y9 := hbc9.cell (i := 1) (v := rv) rfl; clear hbc9; have HB9 := hid hb9; have HROW9 := hid hrow9; obtain ⟨va, vcp, rfl⟩ := row_slice hrow9; clear hb9 hrow9)
          all_goals (
            have hb89 : Below w8.heap.size w8 w9 := bel_next (Below.refl _ _).drew HB9.out
            have hm9 := HM8.out.below hb89
            obtain ⟨S9, ho9, hf9, hs9⟩ := CoAt.rows_to hm9.obj HROW9.out
            have hsz8 := HM8.out.bel.size
            have hmT := hm9.turn ho9 hf9 (fun k hk => (hs9 k hk).imp id (fun h9 => by have := (HROW9.out.lt k h9).1; simp at this; omega))
            have hrT := hm9.row hf9 (own_bel HROW8.out hb89) (show 96 ∉ [66, 28] by decide)
            have hbT := hm9.blk hf9 (HBX8.out.below' hb89) (show 96 ∉ [66, 28] by decide)
            have HMT := hid hmT
            have HRT := hid hrT
            have x0 := hbT.cell (i := 0) (v := .int .i64 x.base) rfl
            clear hb89 hm9 ho9 hf9 hs9 hmT hrT hbT HB9 HROW9 HM8 HROW8 HBX8 HBN HBC HFOLD y1 fc n0 n1 n2
            generalize w9.setCell ⟨c, 1, none⟩ (.slice va O3.length vcp) = wT at HMT HRT x0 ⊢
            clear y9 fc9
            go_wp2_with fail
            go_roundw
            case rel => exact ⟨i + 1, S9, O3, by omega, by go_num, by rw [HNEXT.out], HMT.out, by rw [← Nat.add_assoc]; exact HR3.out, HRT.out⟩
            case measure => simp [intOf]; omega)
        · obtain rfl : i = r.length := by omega
          have HM2 := hid hmid
          have HR2 := hid hr2
          clear hmid hr2 hrow
          have hgl := HGOAL.out
          have hb9 := (HS3.out (k + r.length)).2
          generalize hat2 : endOf A3.first (A3.all.take (k + r.length)) = at2 at hgl hb9 ⊢
          go_wp2_with fail
          go_roundw
          case rel => exact ⟨k + r.length, S2, O2, hrl3, by rw [hat2], HM2.out, HR2.out⟩
          case measure => simp [intOf]; omega
    · obtain rfl : k = A3.all.length := by omega
      have hdl : decide (endOf A3.first (A3.all.take A3.all.length) < A3.toP.next) = false := decide_eq_false (fun h9 => hlt ((HS2.out _ hk).1 h9))
      have ho1 : O1 = rows := by
        have h8 := HR1.out
        rw [List.take_length, HREP.out] at h8
        injection h8 with h8
        exact h8.symm
      subst ho1
      simp only [List.take_length] at hdl g1 g2 ⊢
      generalize endOf A3.first A3.all = at0 at hdl g1 g2 ⊢
      have HDL := hid hdl
      have hnl : ¬ at0 < A3.toP.next := of_decide_eq_false hdl
      clear hdl
      go_wp2_with fail
      refine (next_any (HLOG.out.below HMID.out.bel)).mono ?_
      rintro e w5 ⟨rfl, rfl⟩
      have HM0 := hid HMID.out
      clear HMID HR1 HDL
      go_wp2_with fail
      go_loopw [78] (fun j' wr => ∃ (j : Nat) (S2 : Nat → Prop), j ≤ 9 ∧ j' = .int .i64 j ∧ TMid (coThing c l) w1 S2 (PCo.new O1 (dueTo j)) wr) (fun j' _ => 9 - (intOf j').toNat)
      case atStart => exact ⟨0, S1, Nat.zero_le _, rfl, HM0.out⟩
      case round =>
        obtain ⟨j, S2, hj, rfl, hmid⟩ := hrel
        have HM2 := hid hmid
        by_cases hj9 : j < 9
        · have hj0' : (0 : Int) ≤ (j : Int) := by omega
          have hj1' : (j : Int) < 9 := by omega
          obtain ⟨rv2, hrep2, _⟩ := hmid.obj
          have f2 := hrep2.hdr.free (2 + j)
          have y2 := hrep2.due_at hj9
          obtain ⟨S9, ho9, hf9, hs9⟩ := CoAt.due_to hmid.obj hj9 10
          have hm9 := hmid.turn ho9 hf9 (fun k hk => (hs9 k hk).elim .inl (fun h9 => .inr (Nat.le_trans hmid.bel.size h9)))
          have hd9 : (PCo.new O1 (dueTo j)).due.set j 10 = dueTo (j + 1) := dueTo_set j hj9
          rw [hd9] at hm9
          have HM9 := hid hm9
          clear hrep2 ho9 hf9 hm9 hd9 hmid
          go_wp2_with fail
          go_roundw
          case rel => exact ⟨j + 1, S9, by omega, by go_num, HM9.out⟩
          case measure => simp [intOf]; omega
        · obtain rfl : j = 9 := by omega
          clear hmid
          go_wp2_with fail
          go_ret2
          have hsz1 := HFR.out.size
          refine ⟨c, l, S2, SL, SD1, rfl, ⟨HM2.out.obj, HLOG.out.below HM2.out.bel, HDISK.out.below HM2.out.bel⟩, HFR.out.below HM2.out.bel, fun k hk => ?_, HSL.out, HSD.out⟩
          have := HM2.out.s k hk
          omega
end Go.Proofs.YtbnefpdjcbegpaaGreatDoor

namespace Go.Proofs.YtbnefpdjcbegpaaGreatDoor
open Go.RowKit

/-- A coordinator and what it lies in, all made since w. -/
structure CoMade (w wr : World) (c l d : Nat) (S SL SD : Nat → Prop) (C : PCo) (L : PLog) (D : PDisk) : Prop where
  trio : Trio (coThing c l) wr l d S SL SD C L D
  bel : Below w.heap.size w wr
  s : ∀ k, S k → w.heap.size ≤ k
  sl : ∀ k, SL k → w.heap.size ≤ k
  sd : ∀ k, SD k → w.heap.size ≤ k

theorem CoMade.below {w wr w2 : World} {c l d : Nat} {S SL SD : Nat → Prop} {C : PCo} {L : PLog} {D : PDisk} (h : CoMade w wr c l d S SL SD C L D) (hb : Below wr.heap.size wr w2) : CoMade w w2 c l d S SL SD C L D :=
  ⟨h.trio.below hb, bel_next h.bel hb, h.s, h.sl, h.sd⟩

theorem CoMade.next {w wr w2 : World} {c l d : Nat} {S SL SD : Nat → Prop} {C C2 : PCo} {L L2 : PLog} {D D2 : PDisk} (h : CoMade w wr c l d S SL SD C L D) (hto : TrioTo (coThing c l) wr w2 l d S SL SD C2 L2 D2) : ∃ S2 SL2 SD2, CoMade w w2 c l d S2 SL2 SD2 C2 L2 D2 := by
  obtain ⟨S2, SL2, SD2, a, f, s, t, u⟩ := hto
  have hsz := h.bel.size
  refine ⟨S2, SL2, SD2, a, h.bel.trans (f.to_below hsz (fun k hk h9 => ?_)), fun k hk => ?_, fun k hk => ?_, fun k hk => ?_⟩
  · rcases h9 with h9 | h9 | h9
    · have := h.s k h9; omega
    · have := h.sl k h9; omega
    · have := h.sd k h9; omega
  · rcases s k hk with h9 | h9
    · exact h.s k h9
    · omega
  · rcases t k hk with h9 | h9
    · exact h.sl k h9
    · omega
  · rcases u k hk with h9 | h9
    · exact h.sd k h9
    · omega

def FreshCo (w : World) (e : Ending) (w' : World) : Prop :=
  ∃ (c l d : Nat) (S SL SD : Nat → Prop), e = .returned (.tuple #[.pointer (some ⟨c, 0, none⟩), .pointer (some ⟨d, 0, none⟩)]) ∧ CoMade w w' c l d S SL SD ⟨[], due0, 0⟩ aC.toP dC

set_option maxHeartbeats 1000000 in
theorem fresh13_any (w : World) : Calls Tryz.prog 30 #[] w (FreshCo w) := by
  go_enter Tryz.func30, Tryz.ntmps30
  go_wp2_with fail
  refine (new_any 1000 w (by omega)).mono ?_
  rintro e w1 ⟨rfl, hd, hb1⟩
  unfold ptr
  have hda : DiskAt w1 (w.heap.size + 1) (foot (w.heap.size + 1) w.heap.size []) dC := ⟨_, _, hd, fun _ => Iff.rfl⟩
  have hS0 : ∀ k, foot (w.heap.size + 1) w.heap.size [] k → w.heap.size ≤ k := by
    rintro k (rfl | rfl | h)
    · omega
    · omega
    · simp at h
  generalize foot (w.heap.size + 1) w.heap.size [] = SD at hda hS0
  clear hd
  generalize w.heap.size + 1 = d at hda ⊢
  have HDA := hid hda
  have HS0 := hid hS0
  have HB1 := hid hb1
  clear hda hS0 hb1
  go_wp2_with fail
  refine (coOpen_good (N := 1000) HDA.out dC_wf dC_open co_new).mono ?_
  rintro e w2 ⟨c, l, S, SL, SD2, rfl, ht, hfr, hs, hsl, hsd⟩
  have hsz := HB1.out.size
  have HP : Hid (FreshCo w (.returned (.tuple #[.pointer (some ⟨c, 0, none⟩), .pointer (some ⟨d, 0, none⟩)])) w2) := hid (by
    refine ⟨c, l, d, S, SL, SD2, rfl, ht, HB1.out.trans (hfr.to_below hsz (fun k hk h9 => by have := HS0.out k h9; omega)), fun k hk => ?_, fun k hk => ?_, fun k hk => ?_⟩
    · have := hs k hk; omega
    · have := hsl k hk; omega
    · rcases hsd k hk with h9 | h9
      · exact HS0.out k h9
      · omega)
  clear ht hfr hs hsl hsd
  go_wp2_with fail
  go_ret2
  exact HP.out

def AwakePost13 (w : World) (e : Ending) (w' : World) : Prop := e = .returned (.bool true) ∧ Below w.heap.size w w'

set_option maxHeartbeats 2000000 in
theorem awake13_any (w : World) : Calls Tryz.prog 13 #[] w (AwakePost13 w) := by
  go_enter Tryz.func13, Tryz.ntmps13
  go_wp2_with fail
  refine (fresh13_any w).mono ?_
  rintro e w1 ⟨c, l, d, S, SL, SD, rfl, hm⟩
  have HM := hid hm
  have HG := hid co_room
  clear hm
  go_wp2_with fail
  refine (coInit_any (N := 1000) 1 HM.out.trio HG.out.right (fun _ => HG.out.good)).mono ?_
  rintro e w2 ⟨rfl, hto⟩
  obtain ⟨A1, D1, h1, hg1⟩ := co_w1 HG.out (by decide)
  rw [h1] at hto ⊢
  obtain ⟨S1, SL1, SD1, hm1⟩ := HM.out.next hto
  have HM1 := hid hm1
  have HG1 := hid hg1
  clear hto hm1 h1 hg1 HM HG
  go_wp2_with fail
  refine (coAdd_any (N := 1000) 1 1 3 HM1.out.trio HG1.out.right (fun _ => HG1.out.good) (by decide)).mono ?_
  rintro e w3 ⟨rfl, hto⟩
  obtain ⟨A2, D2, h1, hg1⟩ := co_w2 HG1.out (by decide)
  rw [h1] at hto ⊢
  obtain ⟨S2, SL2, SD2, hm1⟩ := HM1.out.next hto
  have HM2 := hid hm1
  have HG2 := hid hg1
  clear hto hm1 h1 hg1 HM1 HG1
  go_wp2_with fail
  refine (coEnd_any (N := 1000) 1 1 true HM2.out.trio HG2.out.right (fun _ => HG2.out.good)).mono ?_
  rintro e w4 ⟨rfl, hto⟩
  obtain ⟨A3, D3, h1, hg1⟩ := co_w3 HG2.out (by decide)
  rw [h1] at hto ⊢
  obtain ⟨S3, SL3, SD3, hm1⟩ := HM2.out.next hto
  have HM3 := hid hm1
  have HG3 := hid hg1
  clear hto hm1 h1 hg1 HM2 HG2
  go_wp2_with fail
  refine (coComplete_any (N := 1000) 1 HM3.out.trio HG3.out.right (fun _ => HG3.out.good)).mono ?_
  rintro e w5 ⟨rfl, hto⟩
  obtain ⟨A4, D4, h1, hg1⟩ := co_w4 HG3.out (by decide)
  rw [h1] at hto ⊢
  obtain ⟨S4, SL4, SD4, hm1⟩ := HM3.out.next hto
  have HM4 := hid hm1
  have HG4 := hid hg1
  clear hto hm1 h1 hg1 HM3 HG3
  go_wp2_with fail
  refine (coEnd_any (N := 1000) 1 1 true HM4.out.trio HG4.out.right (fun _ => HG4.out.good)).mono ?_
  rintro e w6 ⟨rfl, hto⟩
  have h1 := co_w5 HG4.out
  rw [h1] at hto ⊢
  obtain ⟨S5, SL5, SD5, hm1⟩ := HM4.out.next hto
  have HM5 := hid hm1
  clear hto hm1 h1 HM4
  go_wp2_with fail
  refine (coEnd_any (N := 1000) 1 1 false HM5.out.trio HG4.out.right (fun _ => HG4.out.good)).mono ?_
  rintro e w7 ⟨rfl, hto⟩
  have h1 := co_w6 HG4.out
  rw [h1] at hto ⊢
  obtain ⟨S6, SL6, SD6, hm1⟩ := HM5.out.next hto
  have HB9 := hid hm1.bel
  clear hto hm1 h1 HM5
  go_wp2_with fail
  go_ret
  exact ⟨rfl, HB9.out⟩
end Go.Proofs.YtbnefpdjcbegpaaGreatDoor
