/-
  dedup: Note: the walk. Conditions: rows that read.
-/
import Derived.Test.YtgjkjkeeblbjlaaGreatDoorJBM
import Derived.Test.YtgjkjkeeblbjlaaGreatDoorHJM
import Derived.Test.YtgjkjkeeblbjlaaGreatDoorGEM
set_option maxRecDepth 100000
namespace Go.Proofs.YtgjkjkeeblbjlaaGreatDoor
open Go.RowKit

def NotePost (w : World) (l : List PProd) (e : Ending) (w' : World) : Prop := ∃ v', e = .returned v' ∧ w'.ownsRow w.heap.size 91 5 v' l.length (prCells l) ∧ Below w.heap.size w w'

theorem FindP.ins {l : List PProd} {pid : Int} {i : Nat} (h : FindP l pid i false) {t : PProd} (ht : t.pid = pid) : i ≤ l.length ∧ insP l t = l.take i ++ t :: l.drop i ∧ prodOf l pid = none := by
  rcases h with ⟨h9, _⟩ | ⟨_, h2, h3, h4, h5⟩
  · cases h9
  · exact ⟨h3, insP_at h3 (by rw [ht]; exact h4) (by rw [ht]; exact h5), prodOf_none h2⟩

theorem FindP.set {l : List PProd} {pid : Int} {i : Nat} (h : FindP l pid i true) {t : PProd} (ht : t.pid = pid) : ∃ p, l[i]? = some p ∧ setP l t = l.set i t ∧ prodOf l pid = some p := by
  rcases h with ⟨_, p, h2, h3, h4⟩ | ⟨h9, _⟩
  · exact ⟨p, h2, setP_at h2 (by rw [ht]; exact h3) (by rw [ht]; exact h4), prodOf_at h2 h3 h4⟩
  · cases h9

theorem insP_len (l : List PProd) (t : PProd) : (insP l t).length = l.length + 1 := by
  induction l with
  | nil => rfl
  | cons x l ih =>
    rw [insP]
    split
    · rw [List.length_cons, ih, List.length_cons]
    · simp

set_option maxHeartbeats 8000000 in
theorem note_any {w : World} {base : Nat} {v : Value} {l : List PProd} (b : PBat) (ad : Option Addr) (cap : Nat) (pos : Int) (h : w.ownsRow base 91 5 v l.length (prCells l)) (hl : l.length ≤ 8) :
    Calls Tryz.prog 77 #[v, b.val (.slice ad b.l.length cap), .int .i64 pos] w (NotePost w (noteP l b pos)) := by
  obtain ⟨r, hr⟩ : ∃ r, noteP l b pos = r := ⟨_, rfl⟩
  rw [hr]
  unfold noteP at hr
  have HR := hid hr
  have hb1 : Below w.heap.size w (w.alloc (.cells #[.int .i64 b.kind, .int .i64 b.pid, .int .i64 b.epoch, .int .i64 b.seq, .slice ad b.l.length cap] 31)) := bel_alloc (Below.refl _ _) _
  have HCL := hid (clonePr_any (own_bel h hb1) (pr_one l) (by omega))
  have HB1 := hid hb1
  have HK1 := hid (Blk.new w #[.int .i64 b.kind, .int .i64 b.pid, .int .i64 b.epoch, .int .i64 b.seq, .slice ad b.l.length cap] 31)
  have hsz1 : (w.alloc (.cells #[.int .i64 b.kind, .int .i64 b.pid, .int .i64 b.epoch, .int .i64 b.seq, .slice ad b.l.length cap] 31)).heap.size = w.heap.size + 1 := by simp
  clear h hb1 hr
  unfold PBat.val
  go_enter Tryz.func77, Tryz.ntmps77
  go_wp2_with fail
  refine HCL.out.mono ?_
  rintro e w2 ⟨v2, rfl, hrow2, hb2⟩
  rw [hsz1] at hrow2
  obtain ⟨va, vc, rfl⟩ := row_slice hrow2
  have HB2 := hid (bel_next HB1.out hb2)
  have HK2 := hid (HK1.out.below' hb2)
  have HROW2 := hid hrow2
  have x1 := HK2.out.cell (i := 1) (v := .int .i64 b.pid) rfl
  clear hb2 hrow2 HB1 HK1 HCL hsz1
  by_cases hp0 : b.pid = 0
  · have hr := HR.out
    rw [if_pos hp0] at hr
    subst hr
    have e1 : decide (b.pid = 0) = true := decide_eq_true hp0
    have e2 : (b.pid == 0) = true := by simpa using hp0
    clear hp0
    go_wp2_with fail
    go_ret
    exact ⟨_, rfl, own_base HROW2.out (by omega), HB2.out⟩
  · have hr := HR.out
    rw [if_neg hp0] at hr
    have HR2 := hid hr
    have e1 : decide (b.pid = 0) = false := decide_eq_false hp0
    have e2 : (b.pid == 0) = false := by simpa using hp0
    clear hp0 hr HR
    go_wp2_with fail
    refine (dfind_any b.pid HROW2.out (by omega)).mono ?_
    rintro e w3 ⟨i, ok, rfl, hfp, hb3⟩
    have HFP := hid hfp
    have HB3 := hid (bel_next HB2.out hb3)
    have HK3 := hid (HK2.out.below' hb3)
    have HROW3 := hid (own_bel HROW2.out hb3)
    have hlt3 := HK3.out.lt
    have x0 := HK3.out.cell (i := 0) (v := .int .i64 b.kind) rfl
    have x1 := HK3.out.cell (i := 1) (v := .int .i64 b.pid) rfl
    have x2 := HK3.out.cell (i := 2) (v := .int .i64 b.epoch) rfl
    have x3 := HK3.out.cell (i := 3) (v := .int .i64 b.seq) rfl
    have x4 := HK3.out.cell (i := 4) (v := .slice ad b.l.length cap) rfl
    clear hfp hb3 HB2 HK2 HROW2
    have hb4 : Below w3.heap.size w3 (w3.alloc (.cells #[.int .i64 b.pid, .int .i64 b.epoch, .int .i64 b.seq, .int .i64 (b.l.length : Int), .int .i64 pos] 91)) := bel_alloc (Below.refl _ _) _
    have HB4 := hid (bel_next HB3.out hb4)
    have HK4 := hid (HK3.out.below' hb4)
    have HROW4 := hid (own_bel HROW3.out hb4)
    have HT4 := hid (Blk.new w3 #[.int .i64 b.pid, .int .i64 b.epoch, .int .i64 b.seq, .int .i64 (b.l.length : Int), .int .i64 pos] 91)
    have hne4 : (Value.slice va l.length vc).ownBlock ≠ some w3.heap.size := fun e => by have := (HROW3.out.lt _ e).2; omega
    have HNE := hid hne4
    have hbw : w.heap.size ≤ w3.heap.size := by omega
    have hwb : w.heap.size ≠ w3.heap.size := by omega
    clear hb4 HB3 HK3 HROW3 hne4
    go_upto_region 6 with fail
    generalize w3.alloc (.cells #[.int .i64 b.pid, .int .i64 b.epoch, .int .i64 b.seq, .int .i64 (b.l.length : Int), .int .i64 pos] 91) = w4 at HB4 HK4 HROW4 HT4 ⊢
    generalize w3.heap.size = rb at HT4 HNE hbw hwb hlt3 ⊢
    clear x0 x1 x2 x3 x4
    have x0 := HK4.out.cell (i := 0) (v := .int .i64 b.kind) rfl
    have x2 := HK4.out.cell (i := 2) (v := .int .i64 b.epoch) rfl
    by_cases hk2 : 2 < b.kind
    · have d1 : decide ((2 : Int) < b.kind) = true := decide_eq_true hk2
      have hT : b.prod pos = ⟨b.pid, b.epoch, 0, 0, pos⟩ := if_pos hk2
      have hr := HR2.out
      rw [hT] at hr
      have HR3 := hid hr
      have HK2' := hid hk2
      have f2 := HT4.out.free 2
      have f3 := HT4.out.free 3
      have t2 := HT4.out.cell (i := 2) (v := .int .i64 b.seq) rfl
      have t3 := HT4.out.cell (i := 3) (v := .int .i64 (b.l.length : Int)) rfl
      have hs := (HT4.out.set 2 (.int .i64 0)).set 3 (.int .i64 0)
      have hs' : Blk ((w4.setCell ⟨rb, 2, none⟩ (.int .i64 0)).setCell ⟨rb, 3, none⟩ (.int .i64 0)) rb #[.int .i64 b.pid, .int .i64 b.epoch, .int .i64 0, .int .i64 0, .int .i64 pos] 91 := by simpa using hs
      have hf := ((Fr.refl (fun k => k = rb) w4).setCell (p := ⟨rb, 2, none⟩) (.inl rfl) (.int .i64 0)).setCell (p := ⟨rb, 3, none⟩) (.inl rfl) (.int .i64 0)
      have HK5 := hid (HK4.out.fr hf hwb)
      have HROW5 := hid (row_fr HROW4.out hf (fun k hk e => HNE.out (e ▸ hk)))
      have HB5 := hid ((HB4.out.setCell (p := ⟨rb, 2, none⟩) hbw (.int .i64 0)).setCell (p := ⟨rb, 3, none⟩) hbw (.int .i64 0))
      have HT5 := hid hs'
      clear hs hs' hf hr hT hk2 HR2 HK4 HROW4 HB4 HT4
      go_upto_region 8 with fail
      generalize (w4.setCell ⟨rb, 2, none⟩ (.int .i64 0)).setCell ⟨rb, 3, none⟩ (.int .i64 0) = w5 at HK5 HROW5 HB5 HT5 ⊢
      clear x0 x2 f2 f3 t2 t3
      have x2 := HK5.out.cell (i := 2) (v := .int .i64 b.epoch) rfl
      cases ok with
      | false =>
        refine wp_region_lex (fun w' => w'.cell? ⟨w.heap.size, 2, none⟩ = some (.int .i64 b.epoch)) [] (by kernel_rfl) (by kernel_rfl) (fun _ _ _ _ _ h => h) (by go_keep) (fun hHeld => ?_)
        iterate 2
          refine lex_take (v := ?_) (by kernel_rfl) (by kernel_rfl) ?_ ?_
          rotate_left
          focus
            intro w' hSw
            try dsimp only at hSw
            go_simp <;> with_reducible rfl
          simp only [Act.put, List.setIfInBounds_toArray, List.set_cons_zero, List.set_cons_succ]
        iterate 8
          refine lex_skip (by kernel_rfl) ?_
          simp only [Act.put, List.setIfInBounds_toArray, List.set_cons_zero, List.set_cons_succ]
        iterate 1
          refine lex_take (v := ?_) (by kernel_rfl) (by kernel_rfl) ?_ ?_
          rotate_left
          focus
            intro w' hSw
            try dsimp only at hSw
            go_simp <;> with_reducible rfl
          simp only [Act.put, List.setIfInBounds_toArray, List.set_cons_zero, List.set_cons_succ]
        refine lex_nil ?_
        clear hHeld
        have HROW6 := hid (own_bel HROW5.out (Below.refl _ _).drew)
        have HB6 := hid HB5.out.drew
        have HT6 := hid (HT5.out.drew)
        clear HROW5 HB5 HT5 HK5 x2
        generalize w5.drew = w6 at HROW6 HB6 HT6 ⊢
        obtain ⟨hil, hins, hno⟩ := FindP.ins HFP.out (t := ⟨b.pid, b.epoch, 0, 0, pos⟩) rfl
        have hr := HR3.out
        rw [hno] at hr
        dsimp only at hr
        subst hr
        have HINS := hid hins
        have hd0 := (HT6.out).cell (i := 0) (v := .int .i64 b.pid) rfl
        have hd1 := (HT6.out).cell (i := 1) (v := .int .i64 b.epoch) rfl
        have hd2 := (HT6.out).cell (i := 2) (v := .int .i64 0) rfl
        have hd3 := (HT6.out).cell (i := 3) (v := .int .i64 0) rfl
        have hd4 := (HT6.out).cell (i := 4) (v := .int .i64 pos) rfl
        clear hno hins HR3
        go_wp2_with fail
        refine (prInsert (t := ⟨b.pid, b.epoch, 0, 0, pos⟩) (own_bel HROW6.out (bel_alloc (Below.refl _ _) _)) (by have := HT6.out.lt; simp; omega) hil hl (Blk.new _ _ _) (fun e => by have := (HROW6.out.lt _ e).2; omega)).mono ?_
        rintro e w9 ⟨v9, rfl, hrow9, hb9⟩
        have hrow9' := hrow9
        rw [← HINS.out, ← insP_len l ⟨b.pid, b.epoch, 0, 0, pos⟩] at hrow9'
        have HROW9 := hid (own_base hrow9' (Nat.le_succ _))
        have HB9 := hid ((bel_alloc HB6.out _).trans (hb9.mono (Nat.le_succ _)))
        clear hrow9 hrow9' hb9
        go_wp2_with fail
        go_ret
        exact ⟨_, rfl, HROW9.out, HB9.out⟩
      | true =>
        obtain ⟨p, hlp, hset, hpo⟩ := FindP.set HFP.out (t := ⟨b.pid, b.epoch, 0, 0, pos⟩) rfl
        have hr := HR3.out
        rw [hpo] at hr
        dsimp only at hr
        obtain ⟨g, cp, hve⟩ : ∃ g cp, (Value.slice va l.length vc) = .slice (some ⟨g, 0, none⟩) l.length cp := by
          rcases Joins.ownsRow_forms HROW5.out with ⟨_, hz⟩ | ⟨g, cp, e9⟩
          · have := (List.getElem?_eq_some_iff.1 hlp).1; omega
          · exact ⟨g, cp, e9⟩
        injection hve with q1 q2 q3
        subst q1 q3
        clear q2
        obtain ⟨_, k1, _⟩ := PrRead.own HROW5.out i p hlp
        have hi := (List.getElem?_eq_some_iff.1 hlp).1
        have hi0 : (0 : Int) ≤ (i : Int) := by omega
        have hi1 : (i : Int) < (l.length : Int) := by omega
        by_cases hge : b.epoch ≤ p.epoch
        · have d4 : decide (b.epoch ≤ p.epoch) = true := decide_eq_true hge
          rw [if_pos ⟨HK2'.out, hge⟩] at hr
          subst hr
          clear hge hlp hset hpo HR3
          refine wp_region_lex (fun w' => w'.cell? ⟨w.heap.size, 2, none⟩ = some (.int .i64 b.epoch) ∧ w'.cell? ⟨g, i * 5 + 1, none⟩ = some (.int .i64 p.epoch)) [] (by kernel_rfl) (by kernel_rfl) (fun _ _ _ _ _ h => h) (by go_keep) (fun hHeld => ?_)
          iterate 11
            refine lex_take (v := ?_) (by kernel_rfl) (by kernel_rfl) ?_ ?_
            rotate_left
            focus
              intro w' hSw
              try dsimp only at hSw
              go_simp <;> with_reducible rfl
            simp only [Act.put, List.setIfInBounds_toArray, List.set_cons_zero, List.set_cons_succ]
          refine lex_nil ?_
          clear hHeld
          have HROW6 := hid (own_bel HROW5.out (Below.refl _ _).drew)
          have HB6 := hid HB5.out.drew
          clear HROW5 HB5 HT5 HK5 x2 k1
          go_wp2_with fail
          go_ret
          exact ⟨_, rfl, own_base HROW6.out (by omega), HB6.out⟩
        · have d4 : decide (b.epoch ≤ p.epoch) = false := decide_eq_false hge
          rw [if_neg (fun h9 => hge h9.2)] at hr
          subst hr
          clear hge hpo HR3
          refine wp_region_lex (fun w' => w'.cell? ⟨w.heap.size, 2, none⟩ = some (.int .i64 b.epoch) ∧ w'.cell? ⟨g, i * 5 + 1, none⟩ = some (.int .i64 p.epoch)) [] (by kernel_rfl) (by kernel_rfl) (fun _ _ _ _ _ h => h) (by go_keep) (fun hHeld => ?_)
          iterate 11
            refine lex_take (v := ?_) (by kernel_rfl) (by kernel_rfl) ?_ ?_
            rotate_left
            focus
              intro w' hSw
              try dsimp only at hSw
              go_simp <;> with_reducible rfl
            simp only [Act.put, List.setIfInBounds_toArray, List.set_cons_zero, List.set_cons_succ]
          refine lex_nil ?_
          clear hHeld
          have HROW6 := hid (own_bel HROW5.out (Below.refl _ _).drew)
          have HB6 := hid HB5.out.drew
          have HT6 := hid (HT5.out.drew)
          clear HROW5 HB5 HT5 HK5 x2 k1
          generalize w5.drew = w6 at HROW6 HB6 HT6 ⊢
          obtain ⟨c0, c1, c2, c3, c4⟩ := PrRead.own HROW6.out i p hlp
          have f0 := row_free HROW6.out (i * 5)
          have f1 := row_free HROW6.out (i * 5 + 1)
          have f2 := row_free HROW6.out (i * 5 + 2)
          have f3 := row_free HROW6.out (i * 5 + 3)
          have f4 := row_free HROW6.out (i * 5 + 4)
          have hgne : g ≠ rb := fun e => HNE.out (by rw [e]; rfl)
          have hd0 := (HT6.out).cell (i := 0) (v := .int .i64 b.pid) rfl
          have hd1 := (HT6.out).cell (i := 1) (v := .int .i64 b.epoch) rfl
          have hd2 := (HT6.out).cell (i := 2) (v := .int .i64 0) rfl
          have hd3 := (HT6.out).cell (i := 3) (v := .int .i64 0) rfl
          have hd4 := (HT6.out).cell (i := 4) (v := .int .i64 pos) rfl
          have hgw : w.heap.size ≤ g := by have := (HROW6.out.lt g rfl).1; omega
          have hrow9 := own_set (own_set (own_set (own_set (own_set HROW6.out (i * 5) (.int .i64 b.pid)) (i * 5 + 1) (.int .i64 b.epoch)) (i * 5 + 2) (.int .i64 0)) (i * 5 + 3) (.int .i64 0)) (i * 5 + 4) (.int .i64 pos)
          have hce := prCells_set l i ⟨b.pid, b.epoch, 0, 0, pos⟩ hi
          dsimp only at hce
          rw [← hce, ← hset] at hrow9
          have hlen : (setP l ⟨b.pid, b.epoch, 0, 0, pos⟩).length = l.length := by rw [hset, List.length_set]
          have HROW9 := hid (own_base (base' := w.heap.size) hrow9 (by omega))
          have HLEN := hid hlen
          have HB9 := hid (((((HB6.out.setCell (p := ⟨g, i * 5, none⟩) hgw (.int .i64 b.pid)).setCell (p := ⟨g, i * 5 + 1, none⟩) hgw (.int .i64 b.epoch)).setCell (p := ⟨g, i * 5 + 2, none⟩) hgw (.int .i64 0)).setCell (p := ⟨g, i * 5 + 3, none⟩) hgw (.int .i64 0)).setCell (p := ⟨g, i * 5 + 4, none⟩) hgw (.int .i64 pos))
          clear hrow9 hce hlen hlp hset
          go_wp2_with fail
          go_ret
          refine ⟨_, rfl, ?_, HB9.out⟩
          rw [HLEN.out]
          exact HROW9.out
    · have d1 : decide ((2 : Int) < b.kind) = false := decide_eq_false hk2
      have hT : b.prod pos = ⟨b.pid, b.epoch, b.seq, b.l.length, pos⟩ := if_neg hk2
      have hr := HR2.out
      rw [hT] at hr
      have HR3 := hid hr
      have HK2' := hid hk2
      clear hr hT hk2 HR2
      cases ok with
      | false =>
        obtain ⟨hil, hins, hno⟩ := FindP.ins HFP.out (t := ⟨b.pid, b.epoch, b.seq, b.l.length, pos⟩) rfl
        have hr := HR3.out
        rw [hno] at hr
        dsimp only at hr
        subst hr
        have HINS := hid hins
        have hd0 := (HT4.out).cell (i := 0) (v := .int .i64 b.pid) rfl
        have hd1 := (HT4.out).cell (i := 1) (v := .int .i64 b.epoch) rfl
        have hd2 := (HT4.out).cell (i := 2) (v := .int .i64 b.seq) rfl
        have hd3 := (HT4.out).cell (i := 3) (v := .int .i64 (b.l.length : Int)) rfl
        have hd4 := (HT4.out).cell (i := 4) (v := .int .i64 pos) rfl
        clear hno hins HR3
        go_wp2_with fail
        refine (prInsert (t := ⟨b.pid, b.epoch, b.seq, b.l.length, pos⟩) (own_bel HROW4.out (bel_alloc (Below.refl _ _) _)) (by have := HT4.out.lt; simp; omega) hil hl (Blk.new _ _ _) (fun e => by have := (HROW4.out.lt _ e).2; omega)).mono ?_
        rintro e w9 ⟨v9, rfl, hrow9, hb9⟩
        have hrow9' := hrow9
        rw [← HINS.out, ← insP_len l ⟨b.pid, b.epoch, b.seq, b.l.length, pos⟩] at hrow9'
        have HROW9 := hid (own_base hrow9' (Nat.le_succ _))
        have HB9 := hid ((bel_alloc HB4.out _).trans (hb9.mono (Nat.le_succ _)))
        clear hrow9 hrow9' hb9
        go_wp2_with fail
        go_ret
        exact ⟨_, rfl, HROW9.out, HB9.out⟩
      | true =>
        obtain ⟨p, hlp, hset, hpo⟩ := FindP.set HFP.out (t := ⟨b.pid, b.epoch, b.seq, b.l.length, pos⟩) rfl
        have hr := HR3.out
        rw [hpo] at hr
        dsimp only at hr
        rw [if_neg (fun h9 => HK2'.out h9.1)] at hr
        subst hr
        clear hpo HR3
        obtain ⟨g, cp, hve⟩ : ∃ g cp, (Value.slice va l.length vc) = .slice (some ⟨g, 0, none⟩) l.length cp := by
          rcases Joins.ownsRow_forms HROW4.out with ⟨_, hz⟩ | ⟨g, cp, e9⟩
          · have := (List.getElem?_eq_some_iff.1 hlp).1; omega
          · exact ⟨g, cp, e9⟩
        injection hve with q1 q2 q3
        subst q1 q3
        clear q2
        obtain ⟨c0, c1, c2, c3, c4⟩ := PrRead.own HROW4.out i p hlp
        have hi := (List.getElem?_eq_some_iff.1 hlp).1
        have hi0 : (0 : Int) ≤ (i : Int) := by omega
        have hi1 : (i : Int) < (l.length : Int) := by omega
        have f0 := row_free HROW4.out (i * 5)
        have f1 := row_free HROW4.out (i * 5 + 1)
        have f2 := row_free HROW4.out (i * 5 + 2)
        have f3 := row_free HROW4.out (i * 5 + 3)
        have f4 := row_free HROW4.out (i * 5 + 4)
        have hgne : g ≠ rb := fun e => HNE.out (by rw [e]; rfl)
        have hd0 := (HT4.out).cell (i := 0) (v := .int .i64 b.pid) rfl
        have hd1 := (HT4.out).cell (i := 1) (v := .int .i64 b.epoch) rfl
        have hd2 := (HT4.out).cell (i := 2) (v := .int .i64 b.seq) rfl
        have hd3 := (HT4.out).cell (i := 3) (v := .int .i64 (b.l.length : Int)) rfl
        have hd4 := (HT4.out).cell (i := 4) (v := .int .i64 pos) rfl
        have hgw : w.heap.size ≤ g := by have := (HROW4.out.lt g rfl).1; omega
        have hrow9 := own_set (own_set (own_set (own_set (own_set HROW4.out (i * 5) (.int .i64 b.pid)) (i * 5 + 1) (.int .i64 b.epoch)) (i * 5 + 2) (.int .i64 b.seq)) (i * 5 + 3) (.int .i64 (b.l.length : Int))) (i * 5 + 4) (.int .i64 pos)
        have hce := prCells_set l i ⟨b.pid, b.epoch, b.seq, b.l.length, pos⟩ hi
        dsimp only at hce
        rw [← hce, ← hset] at hrow9
        have hlen : (setP l ⟨b.pid, b.epoch, b.seq, b.l.length, pos⟩).length = l.length := by rw [hset, List.length_set]
        have HROW9 := hid (own_base (base' := w.heap.size) hrow9 (by omega))
        have HLEN := hid hlen
        have HB9 := hid (((((HB4.out.setCell (p := ⟨g, i * 5, none⟩) hgw (.int .i64 b.pid)).setCell (p := ⟨g, i * 5 + 1, none⟩) hgw (.int .i64 b.epoch)).setCell (p := ⟨g, i * 5 + 2, none⟩) hgw (.int .i64 b.seq)).setCell (p := ⟨g, i * 5 + 3, none⟩) hgw (.int .i64 (b.l.length : Int))).setCell (p := ⟨g, i * 5 + 4, none⟩) hgw (.int .i64 pos))
        clear hrow9 hce hlen hlp hset
        go_wp2_with fail
        go_ret
        refine ⟨_, rfl, ?_, HB9.out⟩
        rw [HLEN.out]
        exact HROW9.out
end Go.Proofs.YtgjkjkeeblbjlaaGreatDoor
