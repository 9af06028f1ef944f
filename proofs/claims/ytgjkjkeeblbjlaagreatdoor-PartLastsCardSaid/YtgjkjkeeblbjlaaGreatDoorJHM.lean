/-
  part: Open, on a log whose entries are batches that fit: the walk. Conditions: numbers that fit.
-/
import Derived.Test.YtgjkjkeeblbjlaaGreatDoorJGM
import Derived.Test.YtgjkjkeeblbjlaaGreatDoorGLM
import Derived.Test.YtgjkjkeeblbjlaaGreatDoorGGM
set_option maxRecDepth 100000
namespace Go.Proofs.YtgjkjkeeblbjlaaGreatDoor
open Go.RowKit

/-- What Open leaves, of a log whose entries are batches that fit. -/
def PaOpenPost (w : World) (d : Nat) (SD : Nat → Prop) (s : PPart) (L : PLog) (D : PDisk) (e : Ending) (w' : World) : Prop :=
  ∃ (p l : Nat) (S SL SD' : Nat → Prop), e = .returned (.tuple #[.pointer (some ⟨p, 0, none⟩), .int .i64 0]) ∧ Trio (paThing p l) w' l d S SL SD' s L D ∧ Fr SD w w' ∧ (∀ k, S k → w.heap.size ≤ k) ∧ (∀ k, SL k → w.heap.size ≤ k) ∧ (∀ k, SD' k → SD k ∨ w.heap.size ≤ k)

theorem PaInv.rep {l : List Ent} {s : PPart} (hc : Chain 0 l) (h : paNotes.replay l paNotes.init = some s) : PaInv s (endOf 0 l) l.length := by
  have h1 := PaInv.replay (s := paNotes.init) (nx := 0) (k := 0) hc (Int.le_refl 0) ⟨by simp [paNotes], by simp [paNotes], by simp [paNotes], by simp [paNotes], by simp [paNotes], by simp [paNotes]⟩ h
  rw [Nat.zero_add] at h1
  exact h1

set_option maxHeartbeats 16000000 in
theorem paOpen_good {w : World} {d : Nat} {SD : Nat → Prop} {D D3 : PDisk} {N : Int} {A3 : ALog} {s : PPart} (hd : DiskAt w d SD D) (hw : D.WF N) (ho : D.openLog paName = (A3.toP, D3, 0)) (hg : NGood paNotes N s A3 D3) :
    Calls Tryz.prog 22 #[.pointer (some ⟨d, 0, none⟩), .string ⟨#[112]⟩] w (PaOpenPost w d SD s A3.toP D3) := by
  obtain ⟨hs1, hs2, hs3⟩ := every_spec hg.inv hg.wf hg.off hg.e (most := 32) (by decide)
  have hi := hg.inv
  have hw3 := hg.wf
  have hwl := hi.wf hw3
  have hcnt := hi.count hw3
  have hf0 := hi.first
  have HFP := hid (fun off => hi.fetch_pos hw3 hg.off off)
  have hnx := hwl.next
  obtain ⟨hch, hend⟩ := hi.all_chain
  have hopen := open_any (N := N) ⟨#[112]⟩ hd hw (by decide)
  have htl : tl (⟨#[112]⟩ : ByteArray) = paName := rfl
  rw [htl, ho] at hopen
  unfold ptr at hopen
  have HOPEN := hid hopen
  have HS1 := hid hs1
  have HS2 := hid hs2
  have HS3 := hid hs3
  have HCH := hid hch
  have HCH0 := hid hg.chain.1
  have HCNT := hid hcnt
  have HW3 := hid hw3
  have HWL := hid hwl
  have HREP := hid (show paNotes.replay A3.all paNotes.init = some s from hg.rep)
  have hnx1 : 0 ≤ A3.next := hnx.1
  have hnx2 : A3.next ≤ 1099511627776 := hnx.2
  clear hopen htl hs1 hs2 hs3 hch hend hi hw3 hwl hd hw ho hnx hg hcnt
  go_enter Tryz.func22, Tryz.ntmps22
  go_wp2_with fail
  refine HOPEN.out.mono ?_
  rintro e w1 (⟨h9, _⟩ | ⟨_, l, SL, SD1, rfl, hlog, hdisk, hfr, hsl, hsd⟩)
  · exact absurd rfl h9
  have HLOG := hid hlog
  have HDISK := hid hdisk
  have HFR := hid hfr
  have HSL := hid hsl
  have HSD := hid hsd
  unfold ptr
  clear hlog hdisk hfr hsl hsd HOPEN
  go_wp2_with fail
  have hst : TMid (paThing w1.heap.size l) w1 (fun k => k = w1.heap.size ∨ (Value.slice none 0 0).ownBlock = some k ∨ (Value.slice none 0 0).ownBlock = some k ∨ (Value.slice none 0 0).ownBlock = some k) ⟨[], [], []⟩ (w1.alloc (.cells #[.pointer (some ⟨l, 0, none⟩), .slice none 0 0, .slice none 0 0, .slice none 0 0] 82)) := by
    refine ⟨⟨.slice none 0 0, .slice none 0 0, .slice none 0 0, ⟨Blk.new _ _ _, World.ownsRow_nil _ _ _ _, World.ownsRow_nil _ _ _ _, World.ownsRow_nil _ _ _ _⟩, fun _ => Iff.rfl⟩, fun k hk => ?_, bel_alloc (Below.refl _ _) _⟩
    rcases hk with rfl | hk | hk | hk
    · exact Nat.le_refl _
    · cases hk
    · cases hk
    · cases hk
  have HST := hid hst
  clear hst
  generalize (fun k => k = w1.heap.size ∨ (Value.slice none 0 0).ownBlock = some k ∨ (Value.slice none 0 0).ownBlock = some k ∨ (Value.slice none 0 0).ownBlock = some k) = S0 at HST
  generalize w1.alloc (.cells #[.pointer (some ⟨l, 0, none⟩), .slice none 0 0, .slice none 0 0, .slice none 0 0] 82) = w3 at HST ⊢
  generalize hcc : w1.heap.size = p at HST ⊢
  refine (first_any (HLOG.out.below HST.out.bel)).mono ?_
  rintro e w4 ⟨rfl, rfl⟩
  have hf3 : A3.toP.first = A3.first := rfl
  have hn3 : A3.toP.next = A3.next := rfl
  rw [hf3]
  go_wp2_with fail
  go_loopw [9] (fun at' wr => ∃ (k : Nat) (S1 : Nat → Prop) (r1 : PPart), k ≤ A3.all.length ∧ at' = .int .i64 (endOf A3.first (A3.all.take k)) ∧ TMid (paThing p l) w1 S1 r1 wr ∧ paNotes.replay (A3.all.take k) paNotes.init = some r1)
    (fun at' _ => (A3.next - intOf at').toNat)
  case atStart => exact ⟨0, S0, _, Nat.zero_le _, by simp [endOf_nil], HST.out, rfl⟩
  case round =>
    obtain ⟨k, S1, O1, hk, rfl, hmid, hr1⟩ := hrel
    obtain ⟨g1, g2⟩ := HS3.out k
    have HMID := hid hmid
    have HR1 := hid hr1
    clear hmid hr1
    by_cases hlt : k < A3.all.length
    · have g5 := (HS2.out k hk).2 hlt
      have hq := HS1.out k hlt
      obtain ⟨r, hrr⟩ : ∃ r, (A3.all.drop k).take 32 = r := ⟨_, rfl⟩
      have hq9 : A3.toP.fetch D3 (endOf A3.first (A3.all.take k)) 32 = (r, 0) := by rw [hq, ← hrr]; rfl
      have hrl : 1 ≤ r.length ∧ r.length ≤ 32 ∧ k + r.length ≤ A3.all.length := by rw [← hrr, List.length_take, List.length_drop]; omega
      have hrx : ∀ i x, r[i]? = some x → A3.all[k + i]? = some x := by
        intro i x hx
        rw [← hrr, List.getElem?_take] at hx
        split at hx
        · rwa [List.getElem?_drop] at hx
        · cases hx
      have HRX := hid hrx
      have HQ := hid hq9
      obtain ⟨hrl1, hrl2, hrl3⟩ := hrl
      have hdl : decide (endOf A3.first (A3.all.take k) < A3.toP.next) = true := decide_eq_true g5
      have hgoal : endOf A3.first (A3.all.take k) < endOf A3.first (A3.all.take (k + r.length)) := (chain_ends HCH.out k).2 (k + r.length) (by omega) hlt
      have HGOAL := hid hgoal
      clear hq hq9 hrr hrx hgoal
      have HAT : Hid (∃ at0, endOf A3.first (A3.all.take k) = at0) := hid ⟨_, rfl⟩
      obtain ⟨at0, hat0⟩ := HAT.out
      rw [hat0] at hdl HQ HGOAL g1 g2 g5 ⊢
      go_wp2_with fail
      refine (next_any (HLOG.out.below HMID.out.bel)).mono ?_
      rintro e w5 ⟨rfl, rfl⟩
      go_wp2_with fail
      refine (fetch_any (N := N) at0 32 (HLOG.out.below HMID.out.bel) (HDISK.out.below HMID.out.bel) HW3.out HWL.out (HFP.out at0)).mono ?_
      rintro e w6 ⟨v, rfl, hrow, hb6⟩
      rw [HQ.out] at hrow
      rw [HQ.out]
      dsimp only at hrow ⊢
      obtain ⟨ge, ce, rfl⟩ : ∃ g cap, v = .slice (some ⟨g, 0, none⟩) r.length cap := by
        rcases Joins.ownsRow_forms hrow with ⟨_, hz⟩ | ⟨g, cap, rfl⟩
        · omega
        · exact ⟨g, cap, rfl⟩
      have hge := hrow.lt ge rfl
      obtain ⟨hge1, hge2⟩ := hge
      have HROW := hid hrow
      have HMID6 := hid (HMID.out.below hb6)
      clear hrow hb6 HMID
      go_wp2_with fail
      go_loopw [9, 45] (fun at' j wr => ∃ (i : Nat) (S1 : Nat → Prop) (r1 : PPart), i ≤ r.length ∧ j = .int .i64 i ∧ at' = .int .i64 (endOf A3.first (A3.all.take (k + i))) ∧ TMid (paThing p l) w1 S1 r1 wr ∧ paNotes.replay (A3.all.take (k + i)) paNotes.init = some r1 ∧
          wr.ownsRow 0 103 3 (.slice (some ⟨ge, 0, none⟩) r.length ce) r.length (entCells r)) (fun _ j _ => r.length - (intOf j).toNat)
      case atStart => exact ⟨0, S1, O1, Nat.zero_le _, rfl, by rw [Nat.add_zero, hat0], HMID6.out, HR1.out, own_base HROW.out (Nat.zero_le _)⟩
      case round =>
        rename Nat → Prop => S1'
        obtain ⟨i, S2, O2, hil, rfl, rfl, hmid, hr2, hrow⟩ := hrel
        have hi0' : (0 : Int) ≤ (i : Int) := by omega
        by_cases hil2 : i < r.length
        · have hi1' : (i : Int) < (r.length : Int) := by omega
          obtain ⟨x, hx⟩ : ∃ x, r[i]? = some x := ⟨_, List.getElem?_eq_getElem hil2⟩
          obtain ⟨O3, hstep, hr3⟩ := paNotes.replay_at HREP.out (HRX.out i x hx) hr2
          obtain ⟨b, hb, hxn, hO3⟩ := paStep_some hstep
          obtain ⟨_, _, _, hbok⟩ := batOf_some hb
          obtain ⟨e0, e1, e2⟩ := entCells_at _ _ _ hx
          have c0 := (hrow.cellAt (i * 3) (by omega)).trans e0
          have c1 := (hrow.cellAt (i * 3 + 1) (by omega)).trans e1
          have c2 := (hrow.cellAt (i * 3 + 2) (by omega)).trans e2
          have hger := (hrow.lt ge rfl).2
          have hxok := HCH.out.ok x (List.mem_of_getElem? (HRX.out i x hx))
          have hxb0 : 0 ≤ x.base := hxok.1
          have hxb1 : x.base ≤ 1099511627776 := hxok.2.1
          have hxt : x.text.length ≤ 65536 := hxok.2.2.2.2
          have hbl1 : 1 ≤ b.len := b.len1
          have hbl2 : b.len ≤ 64 := by have := hbok.1.2.2; unfold PBat.len; omega
          have hnext : endOf A3.first (A3.all.take (k + (i + 1))) = x.base + b.len := by
            have ht : A3.all.take (k + (i + 1)) = A3.all.take (k + i) ++ [x] := by rw [← Nat.add_assoc, List.take_add_one, HRX.out i x hx]; rfl
            rw [ht, endOf_app]
            show x.base + x.n = _
            rw [hxn]
          have hsm : PaSmall O2 := by
            have hs9 := (List.take_append_drop (k + i) A3.all).symm
            have hc9 := HCH0.out
            rw [hs9] at hc9
            refine (PaInv.rep (Chain.app.1 hc9).1 hr2).small ?_
            have := HCNT.out
            rw [List.length_take]; omega
          have HNEXT := hid hnext
          rw [hxn] at c1
          have HDEC := hid (fun W => bDecode_any hb (by omega) W)
          have HO3 := hid hO3
          have HR3 := hid hr3
          have HSM := hid hsm
          have HM2 := hid hmid
          have HROW2 := hid hrow
          have hne9 : ge ≠ wr.heap.size := by omega
          clear hx hb hO3 hr2 hr3 e0 e1 e2 hmid hrow hxok hnext hxn hstep hbok hsm
          have hba : Below wr.heap.size wr (wr.alloc (.cells #[.int .i64 x.base, .int .i64 b.len, .string (bs x.text)] 103)) := bel_alloc (Below.refl _ _) _
          have hbx := Blk.new wr #[.int .i64 x.base, .int .i64 b.len, .string (bs x.text)] 103
          have HM3 := hid (HM2.out.below hba)
          have HROW3 := hid (own_bel HROW2.out hba)
          have HBX := hid hbx
          clear hba hbx HM2 HROW2
          go_wp2_with fail
          refine (HDEC.out _).mono ?_
          rintro e w7 ⟨KR, rfl, hrow7, hb7⟩
          unfold PBat.val
          obtain ⟨ra, rc, rfl⟩ := row_slice hrow7
          have HBX7 := hid (HBX.out.below' hb7)
          have HM7 := hid (HM3.out.below hb7)
          have HROW7 := hid (own_bel HROW3.out hb7)
          have hba9 : Below w7.heap.size w7 (w7.alloc (.cells #[.int .i64 b.kind, .int .i64 b.pid, .int .i64 b.epoch, .int .i64 b.seq, .slice ra b.l.length rc] 31)) := bel_alloc (Below.refl _ _) _
          have HBN := hid (Blk.new w7 #[.int .i64 b.kind, .int .i64 b.pid, .int .i64 b.epoch, .int .i64 b.seq, .slice ra b.l.length rc] 31)
          have HBX8 := hid (HBX7.out.below' hba9)
          have HM8 := hid (HM7.out.below hba9)
          have HROW8 := hid (own_bel HROW7.out hba9)
          have hsz9 : wr.heap.size < (w7.alloc (.cells #[.int .i64 b.kind, .int .i64 b.pid, .int .i64 b.epoch, .int .i64 b.seq, .slice ra b.l.length rc] 31)).heap.size := HBX8.out.lt
          clear hb7 HM3 HROW3 HBX HDEC HM7 HBX7 HROW7 hba9 hger hrow7
          go_wp2_with fail
          generalize w7.alloc (.cells #[.int .i64 b.kind, .int .i64 b.pid, .int .i64 b.epoch, .int .i64 b.seq, .slice ra b.l.length rc] 31) = w8 at HBN HBX8 HM8 HROW8 hsz9 ⊢
          generalize w7.heap.size = pn at HBN ⊢
          have x1 := HBX8.out.cell (i := 1) (v := .int .i64 b.len) rfl
          have n0 := HBN.out.cell (i := 0) (v := .int .i64 b.kind) rfl
          have n1 := HBN.out.cell (i := 1) (v := .int .i64 b.pid) rfl
          have n2 := HBN.out.cell (i := 2) (v := .int .i64 b.epoch) rfl
          have n3 := HBN.out.cell (i := 3) (v := .int .i64 b.seq) rfl
          have n4 := HBN.out.cell (i := 4) (v := .slice ra b.l.length rc) rfl
          have HLEN := hid (fun (W : World) => bLen_any b ra rc W)
          unfold PBat.val at HLEN
          refine wp_region_perm (fun w' => w'.cell? ⟨wr.heap.size, 1, none⟩ = some (.int .i64 b.len) ∧ w'.cell? ⟨pn, 0, none⟩ = some (.int .i64 b.kind) ∧ w'.cell? ⟨pn, 1, none⟩ = some (.int .i64 b.pid) ∧ w'.cell? ⟨pn, 2, none⟩ = some (.int .i64 b.epoch) ∧ w'.cell? ⟨pn, 3, none⟩ = some (.int .i64 b.seq) ∧ w'.cell? ⟨pn, 4, none⟩ = some (.slice ra b.l.length rc)) [4] [0, 1, 2, 3, 5, 6, 4, 7, 8] (by kernel_rfl) (by kernel_rfl) (fun _ _ _ _ _ h => h) (by go_keep) (fun hHeld => ?_)
          iterate 6
            refine ord_take (v := ?_) rfl (by kernel_rfl) (by kernel_rfl) ?_ ?_
            rotate_left
            focus
              intro w' hSw
              try dsimp only at hSw
              go_simp <;> with_reducible rfl
            simp only [Act.put, List.setIfInBounds_toArray]
          refine ord_step rfl (by kernel_rfl) (by kernel_rfl) (fun K hK => ?_)
          go_simp
          refine (HLEN.out _).mono ?_
          rintro e w9 ⟨rfl, hb9⟩
          have hb9' : Below w8.heap.size w8 w9 := bel_next (Below.refl w8.heap.size w8).drew hb9
          have HBX9 := hid (HBX8.out.below' hb9')
          have HBN9 := hid (HBN.out.below' hb9')
          have HM9 := hid (HM8.out.below hb9')
          have HROW9 := hid (own_bel HROW8.out hb9')
          have u1 := HBX9.out.cell (i := 1) (v := .int .i64 b.len) rfl
          have m0 := HBN9.out.cell (i := 0) (v := .int .i64 b.kind) rfl
          have m1 := HBN9.out.cell (i := 1) (v := .int .i64 b.pid) rfl
          have m2 := HBN9.out.cell (i := 2) (v := .int .i64 b.epoch) rfl
          have m3 := HBN9.out.cell (i := 3) (v := .int .i64 b.seq) rfl
          have m4 := HBN9.out.cell (i := 4) (v := .slice ra b.l.length rc) rfl
          clear hb9 hb9' HLEN
          go_simp
          refine hK.out _ _ (by exact ⟨u1, m0, m1, m2, m3, m4⟩) (fun hHeld => ?_)
          clear hK K
          try simp only [Act.put, List.setIfInBounds_toArray, List.set_cons_zero, List.set_cons_succ]
          iterate 2
            refine ord_take (v := ?_) rfl (by kernel_rfl) (by kernel_rfl) ?_ ?_
            rotate_left
            focus
              intro w' hSw
              try dsimp only at hSw
              go_simp <;> with_reducible rfl
            simp only [Act.put, List.setIfInBounds_toArray]
          refine ord_nil ?_
          clear hHeld x1 n0 n1 n2 n3 n4 HBX8 HBN HM8 HROW8 u1 hsz9
          have x0 := HBX9.out.cell (i := 0) (v := .int .i64 x.base) rfl
          have htk := paTook_any b ra rc x.base HM9.out.obj HSM.out.p8 (Nat.le_trans HSM.out.ol (by decide)) (Nat.le_trans HSM.out.gl (by decide))
          unfold PBat.val at htk
          rw [← HO3.out] at htk
          have HTK := hid htk
          clear htk
          go_wp2_with fail
          refine HTK.out.mono ?_
          rintro e wT ⟨rfl, S9, ho9, hf9, hs9⟩
          have hsz8 := HM9.out.bel.size
          have hmT := HM9.out.turn ho9 hf9 (fun k hk => (hs9 k hk).imp id (by omega))
          have hrT := HM9.out.row hf9 HROW9.out (show 103 ∉ [82, 91, 58, 111] by decide)
          have hbT := HM9.out.blk hf9 HBX9.out (show 103 ∉ [82, 91, 58, 111] by decide)
          have HMT := hid hmT
          have HRT := hid hrT
          have x0 := hbT.cell (i := 0) (v := .int .i64 x.base) rfl
          have x1 := hbT.cell (i := 1) (v := .int .i64 b.len) rfl
          clear ho9 hf9 hs9 hmT hrT hbT HM9 HROW9 HBX9 HBN9 HTK m0 m1 m2 m3 m4
          go_wp2_with fail
          go_roundw
          case rel => exact ⟨i + 1, S9, O3, by omega, by go_num, by rw [HNEXT.out], HMT.out, by rw [← Nat.add_assoc]; exact HR3.out, HRT.out⟩
          case measure => simp [intOf]; omega
        · obtain rfl : i = r.length := by omega
          have HM2 := hid hmid
          have HR2 := hid hr2
          clear hmid hr2 hrow
          have hgl := HGOAL.out
          have hb9 := (HS3.out (k + r.length)).2
          generalize hat2 : endOf A3.first (A3.all.take (k + r.length)) = at2 at hgl hb9 ⊢
          go_wp2_with fail
          go_roundw
          case rel => exact ⟨k + r.length, S2, O2, hrl3, by rw [hat2], HM2.out, HR2.out⟩
          case measure => simp [intOf]; omega
    · obtain rfl : k = A3.all.length := by omega
      have hdl : decide (endOf A3.first (A3.all.take A3.all.length) < A3.toP.next) = false := decide_eq_false (fun h9 => hlt ((HS2.out _ hk).1 h9))
      have ho1 : O1 = s := by
        have h8 := HR1.out
        rw [List.take_length, HREP.out] at h8
        injection h8 with h8
        exact h8.symm
      subst ho1
      simp only [List.take_length] at hdl g1 g2 ⊢
      generalize endOf A3.first A3.all = at0 at hdl g1 g2 ⊢
      have hnl : ¬ at0 < A3.toP.next := of_decide_eq_false hdl
      go_wp2_with fail
      refine (next_any (HLOG.out.below HMID.out.bel)).mono ?_
      rintro e w5 ⟨rfl, rfl⟩
      clear HR1
      go_wp2_with fail
      go_ret2
      have hsz1 := HFR.out.size
      refine ⟨p, l, S1, SL, SD1, rfl, ⟨HMID.out.obj, HLOG.out.below HMID.out.bel, HDISK.out.below HMID.out.bel⟩, HFR.out.below HMID.out.bel, fun k hk => ?_, HSL.out, HSD.out⟩
      have := HMID.out.s k hk
      omega
end Go.Proofs.YtgjkjkeeblbjlaaGreatDoor
