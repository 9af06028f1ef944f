/-
  offsets: fold of what is pending: the walk. Conditions: numbers that fit.
  offsets: fold of what is done, and of any note: the walk. Conditions: numbers that fit.
-/
import Derived.Test.YtjodkcjlipecdaaGreatDoorGRM
import Derived.Test.YtjodkcjlipecdaaGreatDoorGQM
import Derived.Test.YtjodkcjlipecdaaGreatDoorGEM
import Derived.Deep.AppendLies
set_option maxRecDepth 100000
namespace Go.Proofs.YtjodkcjlipecdaaGreatDoor
open Go.RowKit

theorem producer_is (a b : Int) (p : Bool) (w : World) (hp : decide (isProd a b) = p) : Calls Tryz.prog 85 #[.int .i64 a, .int .i64 b] w fun e w' => e = .returned (.bool p) ∧ w = w' := by
  have h := producer_any a b w
  rw [hp] at h
  exact h

theorem part_is {o n : Nat} {ad : Option Addr} {cap : Nat} {w : World} (p : Int) (q : Bool) (hc : w.cell? ⟨o, 3, none⟩ = some (.slice ad n cap)) (hq : decide (0 ≤ p ∧ p < n) = q) :
    Calls Tryz.prog 86 #[.pointer (some ⟨o, 0, none⟩), .int .i64 p] w fun e w' => e = .returned (.bool q) ∧ w = w' := by
  have h := part_any p hc
  rw [hq] at h
  exact h

theorem pigeon : ∀ (m : Nat) (l : List Nat), l.Pairwise (· ≠ ·) → (∀ x ∈ l, x < m) → l.length ≤ m
  | 0, l, _, h => by
    cases l with
    | nil => simp
    | cons x l => exact absurd (h x (by simp)) (by omega)
  | m + 1, l, hp, h => by
    have hnd : l.Nodup := hp
    have h1 := pigeon m (l.erase m) (hp.sublist List.erase_sublist) (fun x hx => by
      obtain ⟨h2, h3⟩ := (hnd.mem_erase_iff).1 hx
      have := h x h3
      omega)
    have h4 := List.length_erase (a := m) (l := l)
    split at h4 <;> omega

theorem POff.Ok.few {O : POff} (h : O.Ok) : O.pend.length ≤ O.com.length := by
  have h1 := pigeon O.com.length (O.pend.map fun x => x.part.toNat) (by
    rw [List.pairwise_map]
    refine h.once.imp_of_mem (fun {x y} hx hy hne e => hne ?_)
    have a := (h.pend x hx).2.1
    have b := (h.pend y hy).2.1
    have a0 := a.1
    have b0 := b.1
    omega) (fun n hn => by
    obtain ⟨x, hx, rfl⟩ := List.mem_map.1 hn
    have a := (h.pend x hx).2.1
    have a0 := a.1
    have a1 := a.2
    omega)
  simpa using h1

/-- What is pending lies elsewhere now. -/
theorem OffRep.setPend {w w6 w7 : World} {o l : Nat} {S : Nat → Prop} {cv pv : Value} {O : POff} (h : OffRep w o l cv pv O) (hS : ∀ k, S k ↔ footO o cv pv k) (hb : Below w.heap.size w w6) (hg : w6.grownBy w7 pv.ownBlock)
    {gg m cap : Nat} {l' : List PPend} (hm : m = l'.length) (hown : w7.ownsRow 0 78 4 (.slice (some ⟨gg, 0, none⟩) m cap) m (pendCells l')) (hat : pv.ownBlock = some gg ∨ w6.heap.size ≤ gg) :
    OffTo w (w7.setCell ⟨o, 4, none⟩ (.slice (some ⟨gg, 0, none⟩) m cap)) o l S { O with pend := l' } := by
  subst hm
  have hsz := hb.size
  have ho := h.hdr.lt
  have hpo : pv.ownBlock ≠ some o := by
    intro hk
    obtain ⟨c, hc⟩ := row_blk h.pend hk
    exact absurd (hc.inj h.hdr).2 (by decide)
  have hgo : gg ≠ o := by
    rintro rfl
    rcases hat with h9 | h9
    · exact hpo h9
    · omega
  have hf6 : Fr (fun k => pv.ownBlock = some k) w w7 := (Fr.of_below hb).trans ((fr_grown hg).mono fun _ _ h => h)
  have hset : Fr (fun k => k = o) w7 (w7.setCell ⟨o, 4, none⟩ (.slice (some ⟨gg, 0, none⟩) l'.length cap)) := (Fr.refl (fun k => k = o) w7).setCell (p := ⟨o, 4, none⟩) (.inl rfl) _
  have hcp : ∀ k, cv.ownBlock = some k → ¬ pv.ownBlock = some k := by
    intro k hk hk2
    obtain ⟨c, hc⟩ := row_blk h.com hk
    obtain ⟨c2, hc2⟩ := row_blk h.pend hk2
    exact absurd (hc.inj hc2).2 (by decide)
  have hco : ∀ k, cv.ownBlock = some k → ¬ k = o := by
    rintro k hk rfl
    obtain ⟨c, hc⟩ := row_blk h.com hk
    exact absurd (hc.inj h.hdr).2 (by decide)
  have hdr7 := h.hdr.fr hf6 hpo
  refine ⟨footO o cv (.slice (some ⟨gg, 0, none⟩) l'.length cap), ⟨cv, _, ⟨?_, row_fr (row_fr h.com hf6 hcp) hset hco, row_fr hown hset ?_⟩, fun _ => Iff.rfl⟩, ?_, ?_⟩
  · have h9 := hdr7.set 4 (.slice (some ⟨gg, 0, none⟩) l'.length cap)
    simpa using h9
  · rintro k hk rfl
    simp only [Value.ownBlock, Option.some.injEq] at hk
    exact hgo hk
  · refine (hf6.mono (S' := S) (fun k _ hk => (hS k).2 (.inr (.inr hk)))).trans (hset.mono (fun k _ hk => (hS k).2 (.inl hk)))
  · rintro k (hk | hk | hk)
    · exact .inl ((hS k).2 (.inl hk))
    · exact .inl ((hS k).2 (.inr (.inl hk)))
    · simp only [Value.ownBlock, Option.some.injEq] at hk
      subst hk
      rcases hat with h9 | h9
      · exact .inl ((hS gg).2 (.inr (.inr h9)))
      · exact .inr (by omega)

theorem Tryz.infoPend : (Tryz.prog.info? 78).map (fun i => (i.zero, i.size, i.bytes)) = some (some (.agg #[.int .i64 0, .int .i64 0, .int .i64 0, .int .i64 0]), 4, 32) := by kernel_rfl

set_option maxHeartbeats 8000000 in
theorem fold_pend {w : World} {o l : Nat} {S : Nat → Prop} {O : POff} (a b c d : Int) (h : OffAt w o l S O) (hok : O.Ok) (hlen : O.com.length ≤ 4) :
    Calls Tryz.prog 97 #[.pointer (some ⟨o, 0, none⟩), (PNote.mk 2 a b c d).val] w (FoldPost w o l S O ⟨2, a, b, c, d⟩) := by
  have HO := hid h
  have hpl := hok.few
  have hno : (¬ isProd a b ∨ ¬ O.isPart c ∨ ¬ isNum d ∨ d < O.at c ∨ O.ofPart c ≠ []) → O.fold ⟨2, a, b, c, d⟩ = none := by
    intro h9
    unfold POff.fold
    rw [if_neg (show ¬ ((2 : Int) = 1) by decide), if_pos rfl, if_pos h9]
  obtain ⟨cv, pv, h1, h2⟩ := h
  obtain ⟨ad, cap, rfl⟩ := row_slice h1.com
  have H1 := hid h1
  have H2 := hid h2
  obtain ⟨c0, c1, c2, c3, c4⟩ := h1.cells
  have ho := h1.hdr.lt
  have hne : o ≠ w.heap.size := by omega
  have hne2 : o ≠ w.heap.size + 1 := by omega
  have hne3 : o ≠ w.heap.size + 1 + 1 := by omega
  have ho2 : o < w.heap.size + 1 := by omega
  have ho3 : o < w.heap.size + 1 + 1 := by omega
  have eg1 : ∀ args w, (callFunc 146 args).run Tryz.prog w = .ok (.enter 146 args) w := enters_of Tryz.func146 (by kernel_rfl) rfl
  clear h1 h2 c0 c1 c2 hok
  unfold PNote.val
  by_cases hp : isProd a b
  · have hd1 := decide_eq_true hp
    by_cases hpt : O.isPart c
    · obtain ⟨k, rfl⟩ : ∃ k : Nat, c = k := ⟨c.toNat, by have := hpt.1; omega⟩
      have hd2 : decide ((0 : Int) ≤ (k : Int) ∧ (k : Int) < (O.com.length : Int)) = true := decide_eq_true hpt
      have hk1 : (k : Int) < (O.com.length : Int) := hpt.2
      have hk0 : (0 : Int) ≤ (k : Int) := hpt.1
      have hkn : k < O.com.length := by omega
      obtain ⟨g, rfl⟩ : ∃ g, ad = some ⟨g, 0, none⟩ := by
        rcases Joins.ownsRow_forms H1.out.com with ⟨_, hz⟩ | ⟨g, cap2, e⟩
        · omega
        · injection e with e _ _
          exact ⟨g, e⟩
      have hg := (H1.out.com.lt g rfl).2
      have hgne : g ≠ w.heap.size := by omega
      have hgne2 : g ≠ w.heap.size + 1 := by omega
      have hgne3 : g ≠ w.heap.size + 1 + 1 := by omega
      have hg2 : g < w.heap.size + 1 := by omega
      have hg3 : g < w.heap.size + 1 + 1 := by omega
      have hgk : w.cell? ⟨g, k, none⟩ = some (.int .i64 (O.at k)) := by
        rw [H1.out.com.cellAt k (by omega)]
        unfold comCells POff.at
        rw [List.getElem?_map, List.getElem?_eq_getElem hkn, List.getD_eq_getElem?_getD]
        simp [hkn]
      by_cases hdn : isNum d
      · have hd3 := decide_eq_true hdn
        by_cases hlt : d < O.at k
        · have hl1 := decide_eq_true hlt
          have HF := hid (hno (.inr (.inr (.inr (.inl hlt)))))
          clear hno hp hpt hdn hlt
          go_enter Tryz.func97, Tryz.ntmps97
          go_wp2_with fail
          refine wp_region_lex (fun w' => w'.cell? ⟨w.heap.size + 1, 0, none⟩ = some (.int .i64 a) ∧ w'.cell? ⟨w.heap.size + 1, 1, none⟩ = some (.int .i64 b) ∧ w'.cell? ⟨w.heap.size + 1, 2, none⟩ = some (.int .i64 k) ∧ w'.cell? ⟨w.heap.size + 1, 3, none⟩ = some (.int .i64 d) ∧ w'.cell? ⟨o, 3, none⟩ = some (.slice (some ⟨g, 0, none⟩) O.com.length cap) ∧ w'.cell? ⟨o, 4, none⟩ = some (pv) ∧ w'.cell? ⟨g, k, none⟩ = some (.int .i64 (O.at k))) [4, 10, 16, 17, 36] (by kernel_rfl) (by kernel_rfl) (fun _ _ _ _ _ h => h) (by go_keep) (fun hHeld => ?_)
          iterate 4
            refine lex_take (v := ?_) (by kernel_rfl) (by kernel_rfl) ?_ ?_
            rotate_left
            focus
              intro w' hSw
              try dsimp only at hSw
              go_simp <;> with_reducible rfl
            simp only [Act.put, List.setIfInBounds_toArray, List.set_cons_zero, List.set_cons_succ]
          refine lex_step (by kernel_rfl) (by kernel_rfl) (fun K hK => ?_)
          go_simp
          refine (producer_is a b true _ hd1).mono ?_
          rintro e w2 ⟨rfl, rfl⟩
          go_simp
          refine hK.out _ _ (by exact hHeld) (fun hHeld => ?_)
          clear hK K
          try simp only [Act.put, List.setIfInBounds_toArray, List.set_cons_zero, List.set_cons_succ]
          iterate 5
            refine lex_take (v := ?_) (by kernel_rfl) (by kernel_rfl) ?_ ?_
            rotate_left
            focus
              intro w' hSw
              try dsimp only at hSw
              go_simp <;> with_reducible rfl
            simp only [Act.put, List.setIfInBounds_toArray, List.set_cons_zero, List.set_cons_succ]
          refine lex_step (by kernel_rfl) (by kernel_rfl) (fun K hK => ?_)
          go_simp
          refine (part_is (ad := some ⟨g, 0, none⟩) (cap := cap) (n := O.com.length) k true (by go_simp) hd2).mono ?_
          rintro e w2 ⟨rfl, rfl⟩
          go_simp
          refine hK.out _ _ (by exact hHeld) (fun hHeld => ?_)
          clear hK K
          try simp only [Act.put, List.setIfInBounds_toArray, List.set_cons_zero, List.set_cons_succ]
          iterate 5
            refine lex_take (v := ?_) (by kernel_rfl) (by kernel_rfl) ?_ ?_
            rotate_left
            focus
              intro w' hSw
              try dsimp only at hSw
              go_simp <;> with_reducible rfl
            simp only [Act.put, List.setIfInBounds_toArray, List.set_cons_zero, List.set_cons_succ]
          refine lex_step (by kernel_rfl) (by kernel_rfl) (fun K hK => ?_)
          go_simp
          refine hK.out _ _ (by obtain ⟨h0, h1, h2, h3, h4, h5, h6⟩ := hHeld; exact ⟨Lib.cell?_alloc_some _ h0, Lib.cell?_alloc_some _ h1, Lib.cell?_alloc_some _ h2, Lib.cell?_alloc_some _ h3, Lib.cell?_alloc_some _ h4, Lib.cell?_alloc_some _ h5, Lib.cell?_alloc_some _ h6⟩) (fun hHeld => ?_)
          clear hK K
          try simp only [Act.put, List.setIfInBounds_toArray, List.set_cons_zero, List.set_cons_succ]
          refine lex_step (by kernel_rfl) (by kernel_rfl) (fun K hK => ?_)
          go_simp
          refine (within1 _ _ d true _ hd3 (by go_simp)).mono ?_
          rintro e w2 ⟨rfl, rfl⟩
          go_simp
          refine hK.out _ _ (by exact hHeld) (fun hHeld => ?_)
          clear hK K
          try simp only [Act.put, List.setIfInBounds_toArray, List.set_cons_zero, List.set_cons_succ]
          iterate 16
            refine lex_take (v := ?_) (by kernel_rfl) (by kernel_rfl) ?_ ?_
            rotate_left
            focus
              intro w' hSw
              try dsimp only at hSw
              go_simp <;> with_reducible rfl
            simp only [Act.put, List.setIfInBounds_toArray, List.set_cons_zero, List.set_cons_succ]
          iterate 5
            refine lex_skip (by kernel_rfl) ?_
            simp only [Act.put, List.setIfInBounds_toArray, List.set_cons_zero, List.set_cons_succ]
          iterate 1
            refine lex_take (v := ?_) (by kernel_rfl) (by kernel_rfl) ?_ ?_
            rotate_left
            focus
              intro w' hSw
              try dsimp only at hSw
              go_simp <;> with_reducible rfl
            simp only [Act.put, List.setIfInBounds_toArray, List.set_cons_zero, List.set_cons_succ]
          refine lex_nil ?_
          go_wp2_with fail
          go_ret
          exact FoldPost.no HO.out (bel_alloc (bel_alloc (bel_alloc (Below.refl _ _) _) _) _).drew HF.out
        · have hl1 := decide_eq_false hlt
          obtain ⟨m, hm⟩ : ∃ m, (O.pend.filter fun x => x.part == (k : Int)).length = m := ⟨_, rfl⟩
          have HOF : Hid (∀ W, Below w.heap.size w W → Blk W (w.heap.size + 1) #[.int .i64 a, .int .i64 b, .int .i64 k, .int .i64 d] 78 →
              Calls Tryz.prog 88 #[.pointer (some ⟨o, 0, none⟩), .func (.func 146) #[] #[.pointer (some ⟨w.heap.size + 1, 0, none⟩)]] W fun e w' => ∃ v', e = .returned v' ∧ w'.ownsRow W.heap.size 78 4 v' m (pendCells (O.pend.filter fun x => x.part == (k : Int))) ∧ Below W.heap.size W w') := hid (fun W hW hB => by
            have h9 := of_any (o := o) (l := O.pend) (base := 0) ((hW.cell (p := ⟨o, 4, none⟩) ho).trans c4) (own_bel H1.out.pend hW) (by omega) eg1 (fold1_any hB (fun h => h))
            rw [hm] at h9
            exact h9)
          have HBP : Hid (Blk ((w.alloc (.cells #[.int .i64 2, .int .i64 a, .int .i64 b, .int .i64 k, .int .i64 d] 171)).alloc (.cells #[.int .i64 a, .int .i64 b, .int .i64 k, .int .i64 d] 78)) (w.heap.size + 1) #[.int .i64 a, .int .i64 b, .int .i64 k, .int .i64 d] 78) := hid (by
            have h9 := Blk.new (w.alloc (.cells #[.int .i64 2, .int .i64 a, .int .i64 b, .int .i64 k, .int .i64 d] 171)) #[.int .i64 a, .int .i64 b, .int .i64 k, .int .i64 d] 78
            simpa using h9)
          by_cases hz : m = 0
          · subst hz
            have hnil : O.ofPart k = [] := List.length_eq_zero_iff.1 hm
            have HF : Hid (O.fold ⟨2, a, b, k, d⟩ = some { O with pend := O.pend ++ [⟨a, b, k, d⟩] }) := hid (by
              unfold POff.fold
              rw [if_neg (show ¬ ((2 : Int) = 1) by decide), if_pos rfl, if_neg]
              rintro (h9 | h9 | h9 | h9 | h9)
              · exact h9 hp
              · exact h9 hpt
              · exact h9 hdn
              · exact hlt h9
              · exact h9 hnil)
            clear hno hp hpt hdn hlt hnil
            obtain ⟨i0, hi, hz0, hz1, hz2⟩ := info_parts Tryz.infoPend
            go_enter Tryz.func97, Tryz.ntmps97
            go_wp2_with fail
            refine wp_region_lex (fun w' => w'.cell? ⟨w.heap.size + 1, 0, none⟩ = some (.int .i64 a) ∧ w'.cell? ⟨w.heap.size + 1, 1, none⟩ = some (.int .i64 b) ∧ w'.cell? ⟨w.heap.size + 1, 2, none⟩ = some (.int .i64 k) ∧ w'.cell? ⟨w.heap.size + 1, 3, none⟩ = some (.int .i64 d) ∧ w'.cell? ⟨o, 3, none⟩ = some (.slice (some ⟨g, 0, none⟩) O.com.length cap) ∧ w'.cell? ⟨o, 4, none⟩ = some (pv) ∧ w'.cell? ⟨g, k, none⟩ = some (.int .i64 (O.at k))) [4, 10, 16, 17, 36] (by kernel_rfl) (by kernel_rfl) (fun _ _ _ _ _ h => h) (by go_keep) (fun hHeld => ?_)
            iterate 4
              refine lex_take (v := ?_) (by kernel_rfl) (by kernel_rfl) ?_ ?_
              rotate_left
              focus
                intro w' hSw
                try dsimp only at hSw
                go_simp <;> with_reducible rfl
              simp only [Act.put, List.setIfInBounds_toArray, List.set_cons_zero, List.set_cons_succ]
            refine lex_step (by kernel_rfl) (by kernel_rfl) (fun K hK => ?_)
            go_simp
            refine (producer_is a b true _ hd1).mono ?_
            rintro e w2 ⟨rfl, rfl⟩
            go_simp
            refine hK.out _ _ (by exact hHeld) (fun hHeld => ?_)
            clear hK K
            try simp only [Act.put, List.setIfInBounds_toArray, List.set_cons_zero, List.set_cons_succ]
            iterate 5
              refine lex_take (v := ?_) (by kernel_rfl) (by kernel_rfl) ?_ ?_
              rotate_left
              focus
                intro w' hSw
                try dsimp only at hSw
                go_simp <;> with_reducible rfl
              simp only [Act.put, List.setIfInBounds_toArray, List.set_cons_zero, List.set_cons_succ]
            refine lex_step (by kernel_rfl) (by kernel_rfl) (fun K hK => ?_)
            go_simp
            refine (part_is (ad := some ⟨g, 0, none⟩) (cap := cap) (n := O.com.length) k true (by go_simp) hd2).mono ?_
            rintro e w2 ⟨rfl, rfl⟩
            go_simp
            refine hK.out _ _ (by exact hHeld) (fun hHeld => ?_)
            clear hK K
            try simp only [Act.put, List.setIfInBounds_toArray, List.set_cons_zero, List.set_cons_succ]
            iterate 5
              refine lex_take (v := ?_) (by kernel_rfl) (by kernel_rfl) ?_ ?_
              rotate_left
              focus
                intro w' hSw
                try dsimp only at hSw
                go_simp <;> with_reducible rfl
              simp only [Act.put, List.setIfInBounds_toArray, List.set_cons_zero, List.set_cons_succ]
            refine lex_step (by kernel_rfl) (by kernel_rfl) (fun K hK => ?_)
            go_simp
            refine hK.out _ _ (by obtain ⟨h0, h1, h2, h3, h4, h5, h6⟩ := hHeld; exact ⟨Lib.cell?_alloc_some _ h0, Lib.cell?_alloc_some _ h1, Lib.cell?_alloc_some _ h2, Lib.cell?_alloc_some _ h3, Lib.cell?_alloc_some _ h4, Lib.cell?_alloc_some _ h5, Lib.cell?_alloc_some _ h6⟩) (fun hHeld => ?_)
            clear hK K
            try simp only [Act.put, List.setIfInBounds_toArray, List.set_cons_zero, List.set_cons_succ]
            refine lex_step (by kernel_rfl) (by kernel_rfl) (fun K hK => ?_)
            go_simp
            refine (within1 _ _ d true _ hd3 (by go_simp)).mono ?_
            rintro e w2 ⟨rfl, rfl⟩
            go_simp
            refine hK.out _ _ (by exact hHeld) (fun hHeld => ?_)
            clear hK K
            try simp only [Act.put, List.setIfInBounds_toArray, List.set_cons_zero, List.set_cons_succ]
            iterate 18
              refine lex_take (v := ?_) (by kernel_rfl) (by kernel_rfl) ?_ ?_
              rotate_left
              focus
                intro w' hSw
                try dsimp only at hSw
                go_simp <;> with_reducible rfl
              simp only [Act.put, List.setIfInBounds_toArray, List.set_cons_zero, List.set_cons_succ]
            refine lex_step (by kernel_rfl) (by kernel_rfl) (fun K hK => ?_)
            go_simp
            refine (HOF.out _ (bel_alloc (bel_alloc (bel_alloc (Below.refl _ _) _) _) _).drew ((HBP.out.alloc _).drew)).mono ?_
            rintro e w5 ⟨v5, rfl, hrow5, hb5⟩
            obtain ⟨ad5, cap5, rfl⟩ := row_slice hrow5
            have z0 : w5.cell? ⟨w.heap.size + 1, 0, none⟩ = some (.int .i64 a) := (hb5.cell (p := ⟨w.heap.size + 1, 0, none⟩) (by simp <;> omega)).trans (by go_simp)
            have z1 : w5.cell? ⟨w.heap.size + 1, 1, none⟩ = some (.int .i64 b) := (hb5.cell (p := ⟨w.heap.size + 1, 1, none⟩) (by simp <;> omega)).trans (by go_simp)
            have z2 : w5.cell? ⟨w.heap.size + 1, 2, none⟩ = some (.int .i64 k) := (hb5.cell (p := ⟨w.heap.size + 1, 2, none⟩) (by simp <;> omega)).trans (by go_simp)
            have z3 : w5.cell? ⟨w.heap.size + 1, 3, none⟩ = some (.int .i64 d) := (hb5.cell (p := ⟨w.heap.size + 1, 3, none⟩) (by simp <;> omega)).trans (by go_simp)
            have z4 : w5.cell? ⟨o, 3, none⟩ = some (.slice (some ⟨g, 0, none⟩) O.com.length cap) := (hb5.cell (p := ⟨o, 3, none⟩) (by simp <;> omega)).trans (by go_simp)
            have z5 : w5.cell? ⟨o, 4, none⟩ = some (pv) := (hb5.cell (p := ⟨o, 4, none⟩) (by simp <;> omega)).trans (by go_simp)
            have z6 : w5.cell? ⟨g, k, none⟩ = some (.int .i64 (O.at k)) := (hb5.cell (p := ⟨g, k, none⟩) (by simp <;> omega)).trans (by go_simp)
            have HB5 := hid hb5
            clear hb5 hrow5
            go_simp
            refine hK.out _ _ (by exact ⟨z0, z1, z2, z3, z4, z5, z6⟩) (fun hHeld => ?_)
            clear hK K
            try simp only [Act.put, List.setIfInBounds_toArray, List.set_cons_zero, List.set_cons_succ]
            iterate 3
              refine lex_take (v := ?_) (by kernel_rfl) (by kernel_rfl) ?_ ?_
              rotate_left
              focus
                intro w' hSw
                try dsimp only at hSw
                go_simp <;> with_reducible rfl
              simp only [Act.put, List.setIfInBounds_toArray, List.set_cons_zero, List.set_cons_succ]
            refine lex_nil ?_
            go_wp2_with fail
            have hsz5 := HB5.out.size
            have HR5 : Hid (w5.ownsRow 0 78 4 pv O.pend.length (pendCells O.pend)) := hid (own_bel (own_bel H1.out.pend (bel_alloc (bel_alloc (bel_alloc (Below.refl _ _) _) _) _).drew) HB5.out)
            have HPO : Hid (pv.ownBlock ≠ some o) := hid (fun e => by
              obtain ⟨c9, hc9⟩ := row_blk H1.out.pend e
              exact absurd (hc9.inj H1.out.hdr).2 (by decide))
            have HPP : Hid (pv.ownBlock ≠ some (w.heap.size + 1)) := hid (fun e => by
              have := (H1.out.pend.lt _ e).2
              omega)
            have hf4 : w5.frozen? ⟨o, 4, none⟩ = false := by
              have h9 := (H1.out.hdr.below' ((bel_alloc (bel_alloc (bel_alloc (Below.refl _ _) _) _) _).drew)).below' HB5.out
              exact h9.free 4
            have hs5 : w.heap.size + 3 ≤ w5.heap.size := by simpa using hsz5
            have ho5 : o < w5.heap.size := by omega
            refine wp_region_last (fun w' => w'.cell? ⟨o, 4, none⟩ = some (pv) ∧ w'.cell? ⟨w.heap.size + 1, 0, none⟩ = some (.int .i64 a) ∧ w'.cell? ⟨w.heap.size + 1, 1, none⟩ = some (.int .i64 b) ∧ w'.cell? ⟨w.heap.size + 1, 2, none⟩ = some (.int .i64 k) ∧ w'.cell? ⟨w.heap.size + 1, 3, none⟩ = some (.int .i64 d)) 10 [6, 7] [0, 1, 2, 3, 4, 5, 6, 7, 8, 9] (by kernel_rfl) (by kernel_rfl) (fun _ _ _ _ _ h => h) (by go_keep) (fun hHeld => ?_)
            iterate 6
              refine last_take (v := ?_) rfl (by kernel_rfl) (by kernel_rfl) ?_ ?_
              rotate_left
              focus
                intro w' hSw
                try dsimp only at hSw
                go_simp <;> with_reducible rfl
              simp only [Act.put, List.setIfInBounds_toArray]
            refine last_law rfl (by kernel_rfl) (by kernel_rfl) (fun K hK => ?_)
            go_simp
            refine hK.out _ _ (by go_keep) (fun hHeld => ?_)
            clear hK K
            try simp only [Act.put, List.setIfInBounds_toArray, List.set_cons_zero, List.set_cons_succ]
            refine last_law rfl (by kernel_rfl) (by kernel_rfl) (fun K hK => ?_)
            refine wp_append_lies _ _ _ 74 (by rfl) 0 78 i0 _ 4 32 Tryz.underlying74 hi hz0 hz1 hz2 rfl (by omega) pv O.pend.length (pendCells O.pend) (by rfl) ((HR5.out.alloc _).drew) ⟨w5.heap.size, 0, none⟩ 1 1 [.int .i64 a, .int .i64 b, .int .i64 k, .int .i64 d] (by rfl) (by rfl) (World.news_of_block (cs := #[.int .i64 a, .int .i64 b, .int .i64 k, .int .i64 d]) (t := 78) (fr := (0, 0)) (heap_alloc_new w5 _)) (by simp [Value.oneCell']) (by omega) (by unfold maxLen; omega) (by omega) (by simp) (w5.heap.size + 1) (by simp) ?_
            intro gg cap7 w7 hown7 hgrow7 hat7 hlt7
            have y0 : w7.cell? ⟨o, 4, none⟩ = some (pv) := (hgrow7.cell_far _ (by simp <;> omega) ((Ne.symm HPO.out))).trans (by go_simp)
            have y1 : w7.cell? ⟨w.heap.size + 1, 0, none⟩ = some (.int .i64 a) := (hgrow7.cell_far _ (by simp <;> omega) ((Ne.symm HPP.out))).trans (by go_simp)
            have y2 : w7.cell? ⟨w.heap.size + 1, 1, none⟩ = some (.int .i64 b) := (hgrow7.cell_far _ (by simp <;> omega) ((Ne.symm HPP.out))).trans (by go_simp)
            have y3 : w7.cell? ⟨w.heap.size + 1, 2, none⟩ = some (.int .i64 k) := (hgrow7.cell_far _ (by simp <;> omega) ((Ne.symm HPP.out))).trans (by go_simp)
            have y4 : w7.cell? ⟨w.heap.size + 1, 3, none⟩ = some (.int .i64 d) := (hgrow7.cell_far _ (by simp <;> omega) ((Ne.symm HPP.out))).trans (by go_simp)
            have yf : w7.frozen? ⟨o, 4, none⟩ = false := (World.frozen?_of_block (hgrow7.block o (by simp <;> omega) (fun e => HPO.out e.symm))).trans (by go_simp)
            have HOWN := hid hown7
            have HGROW := hid hgrow7
            have HAT := hid hat7
            clear hown7 hgrow7 hat7
            refine hK.out _ _ (by go_keep) (fun hHeld => ?_)
            clear hK K
            try simp only [Act.put, List.setIfInBounds_toArray]
            iterate 2
              refine last_take (v := ?_) rfl (by kernel_rfl) (by kernel_rfl) ?_ ?_
              rotate_left
              focus
                intro w' hSw
                try dsimp only at hSw
                go_simp <;> with_reducible rfl
              simp only [Act.put]
            refine last_step rfl (by kernel_rfl) (fun K hK => ?_)
            go_simp
            refine hK _ _ ?_
            clear hK K
            try simp only [Act.put, List.setIfInBounds_toArray, List.set_cons_zero, List.set_cons_succ]
            go_wp2_with fail
            go_ret
            unfold FoldPost
            rw [HF.out]
            refine ⟨rfl, H1.out.setPend H2.out (l' := O.pend ++ [⟨a, b, k, d⟩]) (bel_next (bel_alloc (bel_alloc (bel_alloc (Below.refl _ _) _) _) _).drew (bel_alloc HB5.out _)).drew HGROW.out (by simp) ?_ ?_⟩
            · rw [pendCells_app]
              exact HOWN.out
            · rcases HAT.out with h9 | h9
              · exact .inl h9
              · exact .inr (by simp; omega)
          · have hgt1 : decide ((0 : Int) < (m : Int)) = true := decide_eq_true (by omega)
            have hgt2 : decide (0 < m) = true := decide_eq_true (by omega)
            have HF := hid (hno (.inr (.inr (.inr (.inr (fun h9 => hz (by
              have h8 : (O.ofPart k).length = m := hm
              rw [h9] at h8
              exact h8.symm)))))))
            clear hno hp hpt hdn hlt hz
            go_enter Tryz.func97, Tryz.ntmps97
            go_wp2_with fail
            refine wp_region_lex (fun w' => w'.cell? ⟨w.heap.size + 1, 0, none⟩ = some (.int .i64 a) ∧ w'.cell? ⟨w.heap.size + 1, 1, none⟩ = some (.int .i64 b) ∧ w'.cell? ⟨w.heap.size + 1, 2, none⟩ = some (.int .i64 k) ∧ w'.cell? ⟨w.heap.size + 1, 3, none⟩ = some (.int .i64 d) ∧ w'.cell? ⟨o, 3, none⟩ = some (.slice (some ⟨g, 0, none⟩) O.com.length cap) ∧ w'.cell? ⟨o, 4, none⟩ = some (pv) ∧ w'.cell? ⟨g, k, none⟩ = some (.int .i64 (O.at k))) [4, 10, 16, 17, 36] (by kernel_rfl) (by kernel_rfl) (fun _ _ _ _ _ h => h) (by go_keep) (fun hHeld => ?_)
            iterate 4
              refine lex_take (v := ?_) (by kernel_rfl) (by kernel_rfl) ?_ ?_
              rotate_left
              focus
                intro w' hSw
                try dsimp only at hSw
                go_simp <;> with_reducible rfl
              simp only [Act.put, List.setIfInBounds_toArray, List.set_cons_zero, List.set_cons_succ]
            refine lex_step (by kernel_rfl) (by kernel_rfl) (fun K hK => ?_)
            go_simp
            refine (producer_is a b true _ hd1).mono ?_
            rintro e w2 ⟨rfl, rfl⟩
            go_simp
            refine hK.out _ _ (by exact hHeld) (fun hHeld => ?_)
            clear hK K
            try simp only [Act.put, List.setIfInBounds_toArray, List.set_cons_zero, List.set_cons_succ]
            iterate 5
              refine lex_take (v := ?_) (by kernel_rfl) (by kernel_rfl) ?_ ?_
              rotate_left
              focus
                intro w' hSw
                try dsimp only at hSw
                go_simp <;> with_reducible rfl
              simp only [Act.put, List.setIfInBounds_toArray, List.set_cons_zero, List.set_cons_succ]
            refine lex_step (by kernel_rfl) (by kernel_rfl) (fun K hK => ?_)
            go_simp
            refine (part_is (ad := some ⟨g, 0, none⟩) (cap := cap) (n := O.com.length) k true (by go_simp) hd2).mono ?_
            rintro e w2 ⟨rfl, rfl⟩
            go_simp
            refine hK.out _ _ (by exact hHeld) (fun hHeld => ?_)
            clear hK K
            try simp only [Act.put, List.setIfInBounds_toArray, List.set_cons_zero, List.set_cons_succ]
            iterate 5
              refine lex_take (v := ?_) (by kernel_rfl) (by kernel_rfl) ?_ ?_
              rotate_left
              focus
                intro w' hSw
                try dsimp only at hSw
                go_simp <;> with_reducible rfl
              simp only [Act.put, List.setIfInBounds_toArray, List.set_cons_zero, List.set_cons_succ]
            refine lex_step (by kernel_rfl) (by kernel_rfl) (fun K hK => ?_)
            go_simp
            refine hK.out _ _ (by obtain ⟨h0, h1, h2, h3, h4, h5, h6⟩ := hHeld; exact ⟨Lib.cell?_alloc_some _ h0, Lib.cell?_alloc_some _ h1, Lib.cell?_alloc_some _ h2, Lib.cell?_alloc_some _ h3, Lib.cell?_alloc_some _ h4, Lib.cell?_alloc_some _ h5, Lib.cell?_alloc_some _ h6⟩) (fun hHeld => ?_)
            clear hK K
            try simp only [Act.put, List.setIfInBounds_toArray, List.set_cons_zero, List.set_cons_succ]
            refine lex_step (by kernel_rfl) (by kernel_rfl) (fun K hK => ?_)
            go_simp
            refine (within1 _ _ d true _ hd3 (by go_simp)).mono ?_
            rintro e w2 ⟨rfl, rfl⟩
            go_simp
            refine hK.out _ _ (by exact hHeld) (fun hHeld => ?_)
            clear hK K
            try simp only [Act.put, List.setIfInBounds_toArray, List.set_cons_zero, List.set_cons_succ]
            iterate 18
              refine lex_take (v := ?_) (by kernel_rfl) (by kernel_rfl) ?_ ?_
              rotate_left
              focus
                intro w' hSw
                try dsimp only at hSw
                go_simp <;> with_reducible rfl
              simp only [Act.put, List.setIfInBounds_toArray, List.set_cons_zero, List.set_cons_succ]
            refine lex_step (by kernel_rfl) (by kernel_rfl) (fun K hK => ?_)
            go_simp
            refine (HOF.out _ (bel_alloc (bel_alloc (bel_alloc (Below.refl _ _) _) _) _).drew ((HBP.out.alloc _).drew)).mono ?_
            rintro e w5 ⟨v5, rfl, hrow5, hb5⟩
            obtain ⟨ad5, cap5, rfl⟩ := row_slice hrow5
            have z0 : w5.cell? ⟨w.heap.size + 1, 0, none⟩ = some (.int .i64 a) := (hb5.cell (p := ⟨w.heap.size + 1, 0, none⟩) (by simp <;> omega)).trans (by go_simp)
            have z1 : w5.cell? ⟨w.heap.size + 1, 1, none⟩ = some (.int .i64 b) := (hb5.cell (p := ⟨w.heap.size + 1, 1, none⟩) (by simp <;> omega)).trans (by go_simp)
            have z2 : w5.cell? ⟨w.heap.size + 1, 2, none⟩ = some (.int .i64 k) := (hb5.cell (p := ⟨w.heap.size + 1, 2, none⟩) (by simp <;> omega)).trans (by go_simp)
            have z3 : w5.cell? ⟨w.heap.size + 1, 3, none⟩ = some (.int .i64 d) := (hb5.cell (p := ⟨w.heap.size + 1, 3, none⟩) (by simp <;> omega)).trans (by go_simp)
            have z4 : w5.cell? ⟨o, 3, none⟩ = some (.slice (some ⟨g, 0, none⟩) O.com.length cap) := (hb5.cell (p := ⟨o, 3, none⟩) (by simp <;> omega)).trans (by go_simp)
            have z5 : w5.cell? ⟨o, 4, none⟩ = some (pv) := (hb5.cell (p := ⟨o, 4, none⟩) (by simp <;> omega)).trans (by go_simp)
            have z6 : w5.cell? ⟨g, k, none⟩ = some (.int .i64 (O.at k)) := (hb5.cell (p := ⟨g, k, none⟩) (by simp <;> omega)).trans (by go_simp)
            have HB5 := hid hb5
            clear hb5 hrow5
            go_simp
            refine hK.out _ _ (by exact ⟨z0, z1, z2, z3, z4, z5, z6⟩) (fun hHeld => ?_)
            clear hK K
            try simp only [Act.put, List.setIfInBounds_toArray, List.set_cons_zero, List.set_cons_succ]
            iterate 3
              refine lex_take (v := ?_) (by kernel_rfl) (by kernel_rfl) ?_ ?_
              rotate_left
              focus
                intro w' hSw
                try dsimp only at hSw
                go_simp <;> with_reducible rfl
              simp only [Act.put, List.setIfInBounds_toArray, List.set_cons_zero, List.set_cons_succ]
            refine lex_nil ?_
            go_wp2_with fail
            go_ret
            exact FoldPost.no HO.out (bel_next (bel_alloc (bel_alloc (bel_alloc (Below.refl _ _) _) _) _).drew HB5.out) HF.out
      · have hd3 := decide_eq_false hdn
        have HF := hid (hno (.inr (.inr (.inl hdn))))
        clear hno hp hpt hdn
        go_enter Tryz.func97, Tryz.ntmps97
        go_wp2_with fail
        refine wp_region_lex (fun w' => w'.cell? ⟨w.heap.size + 1, 0, none⟩ = some (.int .i64 a) ∧ w'.cell? ⟨w.heap.size + 1, 1, none⟩ = some (.int .i64 b) ∧ w'.cell? ⟨w.heap.size + 1, 2, none⟩ = some (.int .i64 k) ∧ w'.cell? ⟨w.heap.size + 1, 3, none⟩ = some (.int .i64 d) ∧ w'.cell? ⟨o, 3, none⟩ = some (.slice (some ⟨g, 0, none⟩) O.com.length cap) ∧ w'.cell? ⟨o, 4, none⟩ = some (pv) ∧ w'.cell? ⟨g, k, none⟩ = some (.int .i64 (O.at k))) [4, 10, 16, 17, 36] (by kernel_rfl) (by kernel_rfl) (fun _ _ _ _ _ h => h) (by go_keep) (fun hHeld => ?_)
        iterate 4
          refine lex_take (v := ?_) (by kernel_rfl) (by kernel_rfl) ?_ ?_
          rotate_left
          focus
            intro w' hSw
            try dsimp only at hSw
            go_simp <;> with_reducible rfl
          simp only [Act.put, List.setIfInBounds_toArray, List.set_cons_zero, List.set_cons_succ]
        refine lex_step (by kernel_rfl) (by kernel_rfl) (fun K hK => ?_)
        go_simp
        refine (producer_is a b true _ hd1).mono ?_
        rintro e w2 ⟨rfl, rfl⟩
        go_simp
        refine hK.out _ _ (by exact hHeld) (fun hHeld => ?_)
        clear hK K
        try simp only [Act.put, List.setIfInBounds_toArray, List.set_cons_zero, List.set_cons_succ]
        iterate 5
          refine lex_take (v := ?_) (by kernel_rfl) (by kernel_rfl) ?_ ?_
          rotate_left
          focus
            intro w' hSw
            try dsimp only at hSw
            go_simp <;> with_reducible rfl
          simp only [Act.put, List.setIfInBounds_toArray, List.set_cons_zero, List.set_cons_succ]
        refine lex_step (by kernel_rfl) (by kernel_rfl) (fun K hK => ?_)
        go_simp
        refine (part_is (ad := some ⟨g, 0, none⟩) (cap := cap) (n := O.com.length) k true (by go_simp) hd2).mono ?_
        rintro e w2 ⟨rfl, rfl⟩
        go_simp
        refine hK.out _ _ (by exact hHeld) (fun hHeld => ?_)
        clear hK K
        try simp only [Act.put, List.setIfInBounds_toArray, List.set_cons_zero, List.set_cons_succ]
        iterate 5
          refine lex_take (v := ?_) (by kernel_rfl) (by kernel_rfl) ?_ ?_
          rotate_left
          focus
            intro w' hSw
            try dsimp only at hSw
            go_simp <;> with_reducible rfl
          simp only [Act.put, List.setIfInBounds_toArray, List.set_cons_zero, List.set_cons_succ]
        refine lex_step (by kernel_rfl) (by kernel_rfl) (fun K hK => ?_)
        go_simp
        refine hK.out _ _ (by obtain ⟨h0, h1, h2, h3, h4, h5, h6⟩ := hHeld; exact ⟨Lib.cell?_alloc_some _ h0, Lib.cell?_alloc_some _ h1, Lib.cell?_alloc_some _ h2, Lib.cell?_alloc_some _ h3, Lib.cell?_alloc_some _ h4, Lib.cell?_alloc_some _ h5, Lib.cell?_alloc_some _ h6⟩) (fun hHeld => ?_)
        clear hK K
        try simp only [Act.put, List.setIfInBounds_toArray, List.set_cons_zero, List.set_cons_succ]
        refine lex_step (by kernel_rfl) (by kernel_rfl) (fun K hK => ?_)
        go_simp
        refine (within1 _ _ d false _ hd3 (by go_simp)).mono ?_
        rintro e w2 ⟨rfl, rfl⟩
        go_simp
        refine hK.out _ _ (by exact hHeld) (fun hHeld => ?_)
        clear hK K
        try simp only [Act.put, List.setIfInBounds_toArray, List.set_cons_zero, List.set_cons_succ]
        iterate 3
          refine lex_take (v := ?_) (by kernel_rfl) (by kernel_rfl) ?_ ?_
          rotate_left
          focus
            intro w' hSw
            try dsimp only at hSw
            go_simp <;> with_reducible rfl
          simp only [Act.put, List.setIfInBounds_toArray, List.set_cons_zero, List.set_cons_succ]
        iterate 11
          refine lex_skip (by kernel_rfl) ?_
          simp only [Act.put, List.setIfInBounds_toArray, List.set_cons_zero, List.set_cons_succ]
        iterate 2
          refine lex_take (v := ?_) (by kernel_rfl) (by kernel_rfl) ?_ ?_
          rotate_left
          focus
            intro w' hSw
            try dsimp only at hSw
            go_simp <;> with_reducible rfl
          simp only [Act.put, List.setIfInBounds_toArray, List.set_cons_zero, List.set_cons_succ]
        iterate 5
          refine lex_skip (by kernel_rfl) ?_
          simp only [Act.put, List.setIfInBounds_toArray, List.set_cons_zero, List.set_cons_succ]
        iterate 1
          refine lex_take (v := ?_) (by kernel_rfl) (by kernel_rfl) ?_ ?_
          rotate_left
          focus
            intro w' hSw
            try dsimp only at hSw
            go_simp <;> with_reducible rfl
          simp only [Act.put, List.setIfInBounds_toArray, List.set_cons_zero, List.set_cons_succ]
        refine lex_nil ?_
        go_wp2_with fail
        go_ret
        exact FoldPost.no HO.out (bel_alloc (bel_alloc (bel_alloc (Below.refl _ _) _) _) _).drew HF.out
    · have hd2 : decide ((0 : Int) ≤ c ∧ c < (O.com.length : Int)) = false := decide_eq_false hpt
      have HF := hid (hno (.inr (.inl hpt)))
      clear hno hp hpt
      go_enter Tryz.func97, Tryz.ntmps97
      go_wp2_with fail
      refine wp_region_lex (fun w' => w'.cell? ⟨w.heap.size + 1, 0, none⟩ = some (.int .i64 a) ∧ w'.cell? ⟨w.heap.size + 1, 1, none⟩ = some (.int .i64 b) ∧ w'.cell? ⟨w.heap.size + 1, 2, none⟩ = some (.int .i64 c) ∧ w'.cell? ⟨w.heap.size + 1, 3, none⟩ = some (.int .i64 d) ∧ w'.cell? ⟨o, 3, none⟩ = some (.slice ad O.com.length cap) ∧ w'.cell? ⟨o, 4, none⟩ = some (pv)) [4, 10, 16, 17, 36] (by kernel_rfl) (by kernel_rfl) (fun _ _ _ _ _ h => h) (by go_keep) (fun hHeld => ?_)
      iterate 4
        refine lex_take (v := ?_) (by kernel_rfl) (by kernel_rfl) ?_ ?_
        rotate_left
        focus
          intro w' hSw
          try dsimp only at hSw
          go_simp <;> with_reducible rfl
        simp only [Act.put, List.setIfInBounds_toArray, List.set_cons_zero, List.set_cons_succ]
      refine lex_step (by kernel_rfl) (by kernel_rfl) (fun K hK => ?_)
      go_simp
      refine (producer_is a b true _ hd1).mono ?_
      rintro e w2 ⟨rfl, rfl⟩
      go_simp
      refine hK.out _ _ (by exact hHeld) (fun hHeld => ?_)
      clear hK K
      try simp only [Act.put, List.setIfInBounds_toArray, List.set_cons_zero, List.set_cons_succ]
      iterate 5
        refine lex_take (v := ?_) (by kernel_rfl) (by kernel_rfl) ?_ ?_
        rotate_left
        focus
          intro w' hSw
          try dsimp only at hSw
          go_simp <;> with_reducible rfl
        simp only [Act.put, List.setIfInBounds_toArray, List.set_cons_zero, List.set_cons_succ]
      refine lex_step (by kernel_rfl) (by kernel_rfl) (fun K hK => ?_)
      go_simp
      refine (part_is (ad := ad) (cap := cap) (n := O.com.length) c false (by go_simp) hd2).mono ?_
      rintro e w2 ⟨rfl, rfl⟩
      go_simp
      refine hK.out _ _ (by exact hHeld) (fun hHeld => ?_)
      clear hK K
      try simp only [Act.put, List.setIfInBounds_toArray, List.set_cons_zero, List.set_cons_succ]
      iterate 3
        refine lex_take (v := ?_) (by kernel_rfl) (by kernel_rfl) ?_ ?_
        rotate_left
        focus
          intro w' hSw
          try dsimp only at hSw
          go_simp <;> with_reducible rfl
        simp only [Act.put, List.setIfInBounds_toArray, List.set_cons_zero, List.set_cons_succ]
      iterate 5
        refine lex_skip (by kernel_rfl) ?_
        simp only [Act.put, List.setIfInBounds_toArray, List.set_cons_zero, List.set_cons_succ]
      iterate 2
        refine lex_take (v := ?_) (by kernel_rfl) (by kernel_rfl) ?_ ?_
        rotate_left
        focus
          intro w' hSw
          try dsimp only at hSw
          go_simp <;> with_reducible rfl
        simp only [Act.put, List.setIfInBounds_toArray, List.set_cons_zero, List.set_cons_succ]
      iterate 11
        refine lex_skip (by kernel_rfl) ?_
        simp only [Act.put, List.setIfInBounds_toArray, List.set_cons_zero, List.set_cons_succ]
      iterate 2
        refine lex_take (v := ?_) (by kernel_rfl) (by kernel_rfl) ?_ ?_
        rotate_left
        focus
          intro w' hSw
          try dsimp only at hSw
          go_simp <;> with_reducible rfl
        simp only [Act.put, List.setIfInBounds_toArray, List.set_cons_zero, List.set_cons_succ]
      iterate 5
        refine lex_skip (by kernel_rfl) ?_
        simp only [Act.put, List.setIfInBounds_toArray, List.set_cons_zero, List.set_cons_succ]
      iterate 1
        refine lex_take (v := ?_) (by kernel_rfl) (by kernel_rfl) ?_ ?_
        rotate_left
        focus
          intro w' hSw
          try dsimp only at hSw
          go_simp <;> with_reducible rfl
        simp only [Act.put, List.setIfInBounds_toArray, List.set_cons_zero, List.set_cons_succ]
      refine lex_nil ?_
      go_wp2_with fail
      go_ret
      exact FoldPost.no HO.out (bel_alloc (bel_alloc (Below.refl _ _) _) _).drew HF.out
  · have hd1 := decide_eq_false hp
    have HF := hid (hno (.inl hp))
    clear hno hp
    go_enter Tryz.func97, Tryz.ntmps97
    go_wp2_with fail
    refine wp_region_lex (fun w' => w'.cell? ⟨w.heap.size + 1, 0, none⟩ = some (.int .i64 a) ∧ w'.cell? ⟨w.heap.size + 1, 1, none⟩ = some (.int .i64 b) ∧ w'.cell? ⟨w.heap.size + 1, 2, none⟩ = some (.int .i64 c) ∧ w'.cell? ⟨w.heap.size + 1, 3, none⟩ = some (.int .i64 d) ∧ w'.cell? ⟨o, 3, none⟩ = some (.slice ad O.com.length cap) ∧ w'.cell? ⟨o, 4, none⟩ = some (pv)) [4, 10, 16, 17, 36] (by kernel_rfl) (by kernel_rfl) (fun _ _ _ _ _ h => h) (by go_keep) (fun hHeld => ?_)
    iterate 4
      refine lex_take (v := ?_) (by kernel_rfl) (by kernel_rfl) ?_ ?_
      rotate_left
      focus
        intro w' hSw
        try dsimp only at hSw
        go_simp <;> with_reducible rfl
      simp only [Act.put, List.setIfInBounds_toArray, List.set_cons_zero, List.set_cons_succ]
    refine lex_step (by kernel_rfl) (by kernel_rfl) (fun K hK => ?_)
    go_simp
    refine (producer_is a b false _ hd1).mono ?_
    rintro e w2 ⟨rfl, rfl⟩
    go_simp
    refine hK.out _ _ (by exact hHeld) (fun hHeld => ?_)
    clear hK K
    try simp only [Act.put, List.setIfInBounds_toArray, List.set_cons_zero, List.set_cons_succ]
    iterate 2
      refine lex_take (v := ?_) (by kernel_rfl) (by kernel_rfl) ?_ ?_
      rotate_left
      focus
        intro w' hSw
        try dsimp only at hSw
        go_simp <;> with_reducible rfl
      simp only [Act.put, List.setIfInBounds_toArray, List.set_cons_zero, List.set_cons_succ]
    iterate 5
      refine lex_skip (by kernel_rfl) ?_
      simp only [Act.put, List.setIfInBounds_toArray, List.set_cons_zero, List.set_cons_succ]
    iterate 2
      refine lex_take (v := ?_) (by kernel_rfl) (by kernel_rfl) ?_ ?_
      rotate_left
      focus
        intro w' hSw
        try dsimp only at hSw
        go_simp <;> with_reducible rfl
      simp only [Act.put, List.setIfInBounds_toArray, List.set_cons_zero, List.set_cons_succ]
    iterate 5
      refine lex_skip (by kernel_rfl) ?_
      simp only [Act.put, List.setIfInBounds_toArray, List.set_cons_zero, List.set_cons_succ]
    iterate 2
      refine lex_take (v := ?_) (by kernel_rfl) (by kernel_rfl) ?_ ?_
      rotate_left
      focus
        intro w' hSw
        try dsimp only at hSw
        go_simp <;> with_reducible rfl
      simp only [Act.put, List.setIfInBounds_toArray, List.set_cons_zero, List.set_cons_succ]
    iterate 11
      refine lex_skip (by kernel_rfl) ?_
      simp only [Act.put, List.setIfInBounds_toArray, List.set_cons_zero, List.set_cons_succ]
    iterate 2
      refine lex_take (v := ?_) (by kernel_rfl) (by kernel_rfl) ?_ ?_
      rotate_left
      focus
        intro w' hSw
        try dsimp only at hSw
        go_simp <;> with_reducible rfl
      simp only [Act.put, List.setIfInBounds_toArray, List.set_cons_zero, List.set_cons_succ]
    iterate 5
      refine lex_skip (by kernel_rfl) ?_
      simp only [Act.put, List.setIfInBounds_toArray, List.set_cons_zero, List.set_cons_succ]
    iterate 1
      refine lex_take (v := ?_) (by kernel_rfl) (by kernel_rfl) ?_ ?_
      rotate_left
      focus
        intro w' hSw
        try dsimp only at hSw
        go_simp <;> with_reducible rfl
      simp only [Act.put, List.setIfInBounds_toArray, List.set_cons_zero, List.set_cons_succ]
    refine lex_nil ?_
    go_wp2_with fail
    go_ret
    exact FoldPost.no HO.out (bel_alloc (bel_alloc (Below.refl _ _) _) _).drew HF.out
end Go.Proofs.YtjodkcjlipecdaaGreatDoor

namespace Go.Proofs.YtjodkcjlipecdaaGreatDoor
open Go.RowKit

theorem OffTo.fr {w w1 w2 : World} {o l : Nat} {S : Nat → Prop} {O' : POff} (hf : Fr S w w1) (h : OffTo w1 w2 o l S O') : OffTo w w2 o l S O' := by
  obtain ⟨S', a, f, s⟩ := h
  have hsz := hf.size
  exact ⟨S', a, hf.trans f, fun k hk => (s k hk).imp id (by omega)⟩

theorem grown_of_fr {w w' : World} {g : Nat} (h : Fr (fun k => k = g) w w') : w.grownBy w' (some g) := ⟨h.os, h.tape, h.output, h.size, fun k hk hn => h.block k hk (fun e => hn (by rw [e]))⟩

theorem OffTo.trans {w w1 w2 : World} {o l : Nat} {S : Nat → Prop} {O1 O2 : POff} (h : OffTo w w1 o l S O1) (h2 : ∀ S1, OffAt w1 o l S1 O1 → OffTo w1 w2 o l S1 O2) : OffTo w w2 o l S O2 := by
  obtain ⟨S1, a1, f1, s1⟩ := h
  obtain ⟨S2, a2, f2, s2⟩ := h2 S1 a1
  have hsz := f1.size
  refine ⟨S2, a2, ⟨f2.os.trans f1.os, f2.tape.trans f1.tape, f2.output.trans f1.output, Nat.le_trans f1.size f2.size, fun k hk hn => ?_⟩, fun k hk => ?_⟩
  · refine (f2.block k (by omega) (fun h => ?_)).trans (f1.block k hk hn)
    exact (s1 k h).elim hn (by omega)
  · rcases s2 k hk with h | h
    · exact s1 k h
    · exact .inr (by omega)

theorem putCom_snoc (com : List Int) (l : List PPend) (x : PPend) : putCom com (l ++ [x]) = (putCom com l).set x.part.toNat x.off := by
  unfold putCom; rw [List.foldl_append]; rfl

/-- What is committed while a transaction is done: i were put. -/
def comAt (c : Int) (com : List Int) (l : List PPend) : List Int := if c = 1 then putCom com l else com

theorem comAt_len (c : Int) (com : List Int) (l : List PPend) : (comAt c com l).length = com.length := by
  unfold comAt
  split
  · exact putCom_len _ _
  · rfl

/-- Between two rounds of fold's loop. -/
structure DoneMid (w w5 : World) (o l : Nat) (g cap : Nat) (pv : Value) (O : POff) (q : List PPend) (v5 : Value) (c a b d : Int) (i : Nat) (wr : World) : Prop where
  rep : OffRep wr o l (.slice (some ⟨g, 0, none⟩) O.com.length cap) pv { O with com := comAt c O.com (q.take i) }
  row : wr.ownsRow (w.heap.size + 1) 78 4 v5 q.length (pendCells q)
  note : Blk wr w.heap.size #[.int .i64 3, .int .i64 a, .int .i64 b, .int .i64 c, .int .i64 d] 171
  fr : Fr (fun k => k = g) w5 wr
  le : i ≤ q.length

theorem DoneMid.skip {w w5 : World} {o l g cap : Nat} {pv : Value} {O : POff} {q : List PPend} {v5 : Value} {c a b d : Int} {i : Nat} {wr w' : World} (h : DoneMid w w5 o l g cap pv O q v5 c a b d i wr) (hi : i < q.length) (hc : c ≠ 1) (hb : Below wr.heap.size wr w') : DoneMid w w5 o l g cap pv O q v5 c a b d (i + 1) w' := by
  refine ⟨?_, own_bel h.row hb, h.note.below' hb, h.fr.below hb, by omega⟩
  have h9 := h.rep.fr (Fr.of_below (S := fun _ => False) hb) (fun _ _ h => h)
  have e : ∀ j, comAt c O.com (q.take j) = O.com := fun j => by unfold comAt; rw [if_neg hc]
  rw [e] at h9 ⊢
  exact h9

theorem DoneMid.below {w w5 : World} {o l g cap : Nat} {pv : Value} {O : POff} {q : List PPend} {v5 : Value} {c a b d : Int} {i : Nat} {wr w' : World} (h : DoneMid w w5 o l g cap pv O q v5 c a b d i wr) (hb : Below wr.heap.size wr w') : DoneMid w w5 o l g cap pv O q v5 c a b d i w' :=
  ⟨h.rep.fr (Fr.of_below (S := fun _ => False) hb) (fun _ _ h => h), own_bel h.row hb, h.note.below' hb, h.fr.below hb, h.le⟩

theorem comAt_nil (c : Int) (com : List Int) (q : List PPend) : comAt c com (q.take 0) = com := by
  unfold comAt
  split <;> rfl

theorem comCells_set (l : List Int) (k : Nat) (n : Int) : comCells (l.set k n) = (comCells l).set k (.int .i64 n) := by unfold comCells; rw [List.map_set]

theorem DoneMid.put {w w5 : World} {o l g cap : Nat} {pv : Value} {O : POff} {q : List PPend} {v5 : Value} {a b d : Int} {i : Nat} {wr w' : World} (h : DoneMid w w5 o l g cap pv O q v5 1 a b d i wr) {x : PPend} (hx : q[i]? = some x) {k : Nat} (hk : x.part = k) (hb : Below wr.heap.size wr w') :
    DoneMid w w5 o l g cap pv O q v5 1 a b d (i + 1) (w'.setCell ⟨g, k, none⟩ (.int .i64 x.off)) := by
  have hlt := (List.getElem?_eq_some_iff.1 hx).1
  have hrep := h.rep.fr (Fr.of_below (S := fun _ => False) hb) (fun _ _ h => h)
  have hset : Fr (fun k => k = g) w' (w'.setCell ⟨g, k, none⟩ (.int .i64 x.off)) := (Fr.refl (fun k => k = g) w').setCell (p := ⟨g, k, none⟩) (.inl rfl) _
  obtain ⟨cg, hcg⟩ := row_blk hrep.com (k := g) rfl
  have hgo : ¬ o = g := by
    rintro rfl
    exact absurd (hcg.inj hrep.hdr).2 (by decide)
  refine ⟨⟨hrep.hdr.fr hset hgo, ?_, row_fr hrep.pend hset ?_⟩, row_fr (own_bel h.row hb) hset ?_, (h.note.below' hb).fr hset ?_, (h.fr.below hb).trans hset, by omega⟩
  · have h9 := own_set hrep.com k (.int .i64 x.off)
    rw [← comCells_set] at h9
    have e : comAt 1 O.com (q.take (i + 1)) = (comAt 1 O.com (q.take i)).set k x.off := by
      unfold comAt
      rw [if_pos rfl, if_pos rfl, List.take_add_one, hx]
      show putCom O.com (q.take i ++ [x]) = _
      rw [putCom_snoc, hk]; rfl
    show World.ownsRow _ 0 _ 1 _ (comAt 1 O.com (q.take (i + 1))).length (comCells (comAt 1 O.com (q.take (i + 1))))
    rw [e]
    rw [List.length_set]
    exact h9
  · rintro j hj rfl
    obtain ⟨c2, hc2⟩ := row_blk hrep.pend hj
    exact absurd (hcg.inj hc2).2 (by decide)
  · rintro j hj rfl
    obtain ⟨c2, hc2⟩ := row_blk (own_bel h.row hb) hj
    exact absurd (hcg.inj hc2).2 (by decide)
  · rintro rfl
    exact absurd (hcg.inj (h.note.below' hb)).2 (by decide)

set_option maxHeartbeats 8000000 in
theorem fold_done {w : World} {o l : Nat} {S : Nat → Prop} {O : POff} (a b c d : Int) (h : OffAt w o l S O) (hok : O.Ok) (hlen : O.com.length ≤ 4) :
    Calls Tryz.prog 97 #[.pointer (some ⟨o, 0, none⟩), (PNote.mk 3 a b c d).val] w (FoldPost w o l S O ⟨3, a, b, c, d⟩) := by
  have HO := hid h
  have HOK := hid hok
  have hpl := hok.few
  have hno : (¬ isProd a b ∨ (c ≠ 0 ∧ c ≠ 1) ∨ d ≠ 0 ∨ O.ofPid a = []) → O.fold ⟨3, a, b, c, d⟩ = none := by
    intro h9
    unfold POff.fold
    rw [if_neg (show ¬ ((3 : Int) = 1) by decide), if_neg (show ¬ ((3 : Int) = 2) by decide), if_pos rfl, if_pos h9]
  obtain ⟨cv, pv, h1, h2⟩ := h
  obtain ⟨ad, cap, rfl⟩ := row_slice h1.com
  have H1 := hid h1
  have H2 := hid h2
  obtain ⟨c0, c1, c2, c3, c4⟩ := h1.cells
  have ho := h1.hdr.lt
  have hne : o ≠ w.heap.size := by omega
  have eg2 : ∀ args w, (callFunc 147 args).run Tryz.prog w = .ok (.enter 147 args) w := enters_of Tryz.func147 (by kernel_rfl) rfl
  have HNB : Hid (Blk (w.alloc (.cells #[.int .i64 3, .int .i64 a, .int .i64 b, .int .i64 c, .int .i64 d] 171)) w.heap.size #[.int .i64 3, .int .i64 a, .int .i64 b, .int .i64 c, .int .i64 d] 171) := hid (Blk.new _ _ _)
  have HBA : Hid (Below w.heap.size w (w.alloc (.cells #[.int .i64 3, .int .i64 a, .int .i64 b, .int .i64 c, .int .i64 d] 171))) := hid (bel_alloc (Below.refl _ _) _)
  obtain ⟨m, hm⟩ : ∃ m, (O.pend.filter fun x => x.pid == a).length = m := ⟨_, rfl⟩
  have HOF : Hid (Calls Tryz.prog 88 #[.pointer (some ⟨o, 0, none⟩), .func (.func 147) #[] #[.pointer (some ⟨w.heap.size, 0, none⟩)]] (w.alloc (.cells #[.int .i64 3, .int .i64 a, .int .i64 b, .int .i64 c, .int .i64 d] 171))
      fun e w' => ∃ v', e = .returned v' ∧ w'.ownsRow (w.heap.size + 1) 78 4 v' m (pendCells (O.ofPid a)) ∧ Below (w.alloc (.cells #[.int .i64 3, .int .i64 a, .int .i64 b, .int .i64 c, .int .i64 d] 171)).heap.size (w.alloc (.cells #[.int .i64 3, .int .i64 a, .int .i64 b, .int .i64 c, .int .i64 d] 171)) w') := hid (by
    have h9 := of_any (o := o) (l := O.pend) (base := 0) ((HBA.out.cell (p := ⟨o, 4, none⟩) ho).trans c4) (own_bel H1.out.pend HBA.out) (by omega) eg2 (fold2_any HNB.out (fun h => h))
    rw [hm] at h9
    refine h9.mono ?_
    rintro e w' ⟨v', h3, h4, h5⟩
    have hsz : (w.alloc (.cells #[.int .i64 3, .int .i64 a, .int .i64 b, .int .i64 c, .int .i64 d] 171)).heap.size = w.heap.size + 1 := by simp
    rw [hsz] at h4
    exact ⟨v', h3, h4, h5⟩)
  clear h1 h2 c0 c1 c2 c4 hok
  unfold PNote.val
  by_cases hp : isProd a b
  · have hd1 := decide_eq_true hp
    by_cases hc01 : c = 0 ∨ c = 1
    · by_cases hdz : d = 0
      · subst hdz
        by_cases hz : m = 0
        · subst hz
          have HF := hid (hno (.inr (.inr (.inr (List.length_eq_zero_iff.1 hm)))))
          clear hno hp
          rcases hc01 with rfl | rfl
          · go_enter Tryz.func97, Tryz.ntmps97
            go_wp2_with fail
            refine HOF.out.mono ?_
            rintro e w5 ⟨v5, rfl, hrow5, hb5⟩
            obtain ⟨ad5, cap5, rfl⟩ := row_slice hrow5
            have z1 : w5.cell? ⟨w.heap.size, 1, none⟩ = some (.int .i64 a) := (HNB.out.below' hb5).cell rfl
            have z2 : w5.cell? ⟨w.heap.size, 2, none⟩ = some (.int .i64 b) := (HNB.out.below' hb5).cell rfl
            have z3 : w5.cell? ⟨w.heap.size, 3, none⟩ = some (.int .i64 0) := (HNB.out.below' hb5).cell rfl
            have z4 : w5.cell? ⟨w.heap.size, 4, none⟩ = some (.int .i64 0) := (HNB.out.below' hb5).cell rfl
            have HB5 := hid (bel_next HBA.out hb5)
            have HB6 := hid hb5
            have HROW5 := hid hrow5
            clear hb5 hrow5
            go_wp2_with fail
            refine (producer_is a b true _ hd1).mono ?_
            rintro e w6 ⟨rfl, rfl⟩
            go_wp2_with fail
            go_ret
            exact FoldPost.no HO.out HB5.out HF.out
          · go_enter Tryz.func97, Tryz.ntmps97
            go_wp2_with fail
            refine HOF.out.mono ?_
            rintro e w5 ⟨v5, rfl, hrow5, hb5⟩
            obtain ⟨ad5, cap5, rfl⟩ := row_slice hrow5
            have z1 : w5.cell? ⟨w.heap.size, 1, none⟩ = some (.int .i64 a) := (HNB.out.below' hb5).cell rfl
            have z2 : w5.cell? ⟨w.heap.size, 2, none⟩ = some (.int .i64 b) := (HNB.out.below' hb5).cell rfl
            have z3 : w5.cell? ⟨w.heap.size, 3, none⟩ = some (.int .i64 1) := (HNB.out.below' hb5).cell rfl
            have z4 : w5.cell? ⟨w.heap.size, 4, none⟩ = some (.int .i64 0) := (HNB.out.below' hb5).cell rfl
            have HB5 := hid (bel_next HBA.out hb5)
            have HB6 := hid hb5
            have HROW5 := hid hrow5
            clear hb5 hrow5
            go_wp2_with fail
            refine (producer_is a b true _ hd1).mono ?_
            rintro e w6 ⟨rfl, rfl⟩
            go_wp2_with fail
            go_ret
            exact FoldPost.no HO.out HB5.out HF.out
        · have hz1 : ((m : Int) == 0) = false := beq_eq_false_iff_ne.2 (by omega)
          have hz2 : decide ((m : Int) = 0) = false := decide_eq_false (by omega)
          have hz3 : decide (m = 0) = false := decide_eq_false hz
          rcases hc01 with rfl | rfl
          · have hqm : (O.ofPid a).length = m := hm
            have hq4 : (O.ofPid a).length ≤ 4 := Nat.le_trans (List.length_filter_le _ _) (by omega)
            have HFE : Hid (O.fold ⟨3, a, b, 0, 0⟩ = some { O with com := comAt 0 O.com (O.ofPid a), pend := O.pend.filter fun x => !(x.pid == a) }) := hid (by
              unfold POff.fold
              rw [if_neg (show ¬ ((3 : Int) = 1) by decide), if_neg (show ¬ ((3 : Int) = 2) by decide), if_pos rfl, if_neg]
              · rfl
              rintro (h9 | h9 | h9 | h9)
              · exact h9 hp
              · exact h9.1 rfl
              · exact h9 rfl
              · rw [h9] at hqm; exact hz hqm.symm)
            have hmem : ∀ x ∈ O.ofPid a, x ∈ O.pend ∧ 0 ≤ x.part ∧ x.part < O.com.length := fun x hx => by
              have h9 := (ofPid_mem.1 hx).1
              exact ⟨h9, (HOK.out.pend x h9).2.1⟩
            have hpos : ∃ x, x ∈ O.ofPid a := by
              cases hq9 : O.ofPid a with
              | nil => rw [hq9] at hqm; exact absurd hqm.symm hz
              | cons x r => exact ⟨x, by simp⟩
            obtain ⟨x0, hx0⟩ := hpos
            obtain ⟨hx1, hx2, hx3⟩ := hmem x0 hx0
            have hpl2 : 0 < O.pend.length := List.length_pos_iff.2 (fun h9 => by rw [h9] at hx1; cases hx1)
            obtain ⟨g, rfl⟩ : ∃ g, ad = some ⟨g, 0, none⟩ := by
              rcases Joins.ownsRow_forms H1.out.com with ⟨_, hz9⟩ | ⟨g, cap2, e⟩
              · omega
              · injection e with e _ _
                exact ⟨g, e⟩
            obtain ⟨gp, cp, rfl⟩ : ∃ gp cp, pv = .slice (some ⟨gp, 0, none⟩) O.pend.length cp := by
              rcases Joins.ownsRow_forms H1.out.pend with ⟨_, hz9⟩ | ⟨g9, cap2, e⟩
              · omega
              · exact ⟨g9, cap2, e⟩
            have HMEM := hid hmem
            clear hno hp hx0 hx1 hx2 hx3 hmem x0
            generalize hqq : O.ofPid a = q at hqm hq4 HFE HMEM HOF
            clear hm
            subst hqm
            go_enter Tryz.func97, Tryz.ntmps97
            go_wp2_with fail
            refine HOF.out.mono ?_
            rintro e w5 ⟨v5, rfl, hrow5, hb5⟩
            obtain ⟨g5, cap5, rfl⟩ : ∃ g5 cap5, v5 = .slice (some ⟨g5, 0, none⟩) q.length cap5 := by
              rcases Joins.ownsRow_forms hrow5 with ⟨_, hz9⟩ | ⟨g9, cap2, e⟩
              · exact absurd hz9 hz
              · exact ⟨g9, cap2, e⟩
            have z1 : w5.cell? ⟨w.heap.size, 1, none⟩ = some (.int .i64 a) := (HNB.out.below' hb5).cell rfl
            have z2 : w5.cell? ⟨w.heap.size, 2, none⟩ = some (.int .i64 b) := (HNB.out.below' hb5).cell rfl
            have z3 : w5.cell? ⟨w.heap.size, 3, none⟩ = some (.int .i64 0) := (HNB.out.below' hb5).cell rfl
            have z4 : w5.cell? ⟨w.heap.size, 4, none⟩ = some (.int .i64 0) := (HNB.out.below' hb5).cell rfl
            have HB5 := hid (bel_next HBA.out hb5)
            have HB6 := hid hb5
            have HROW5 := hid hrow5
            clear hb5 hrow5
            go_wp2_with fail
            refine (producer_is a b true _ hd1).mono ?_
            rintro e w6 ⟨rfl, rfl⟩
            go_wp2_with fail
            have hstart : DoneMid w w5 o l g cap (.slice (some ⟨gp, 0, none⟩) O.pend.length cp) O q (.slice (some ⟨g5, 0, none⟩) q.length cap5) 0 a b 0 0 w5 := by
              refine ⟨?_, HROW5.out, HNB.out.below' HB6.out, Fr.refl _ _, Nat.zero_le _⟩
              rw [comAt_nil]
              exact H1.out.fr (Fr.of_below (S := fun _ => False) HB5.out) (fun _ _ h => h)
            have HS := hid hstart
            clear hstart z1 z2 z3 z4 HROW5
            go_loopw [154] (fun ci wr => ∃ i : Nat, ci = .int .i64 i ∧ DoneMid w w5 o l g cap (.slice (some ⟨gp, 0, none⟩) O.pend.length cp) O q (.slice (some ⟨g5, 0, none⟩) q.length cap5) 0 a b 0 i wr) (fun ci _ => q.length - (intOf ci).toNat)
            case atStart => exact ⟨0, rfl, HS.out⟩
            case round =>
              obtain ⟨i, rfl, hmid⟩ := hrel
              have hile := hmid.le
              have hi0 : (0 : Int) ≤ (i : Int) := by omega
              have hgr : g < wr.heap.size := (hmid.rep.com.lt g rfl).2
              have hg5r : g5 < wr.heap.size := (hmid.row.lt g5 rfl).2
              have hwr : w.heap.size < wr.heap.size := hmid.note.lt
              have hor : o < wr.heap.size := hmid.rep.hdr.lt
              by_cases hlt : i < q.length
              · have hi1 : (i : Int) < (q.length : Int) := by omega
                obtain ⟨x, hx⟩ : ∃ x, q[i]? = some x := ⟨_, List.getElem?_eq_getElem hlt⟩
                obtain ⟨hx1, hx2, hx3⟩ := HMEM.out x (List.mem_of_getElem? hx)
                obtain ⟨k, hk⟩ : ∃ k : Nat, x.part = k := ⟨x.part.toNat, by omega⟩
                obtain ⟨f0, f1, f2, f3⟩ := PendRead.own hmid.row i x hx
                rw [hk] at f2
                have hkc : k < O.com.length := by omega
                have hk0 : (0 : Int) ≤ (k : Int) := by omega
                have hk1 : (k : Int) < (O.com.length : Int) := by omega
                have n3 : wr.cell? ⟨w.heap.size, 3, none⟩ = some (.int .i64 0) := hmid.note.cell rfl
                have e3 : wr.cell? ⟨o, 3, none⟩ = some (.slice (some ⟨g, 0, none⟩) O.com.length cap) := hmid.rep.hdr.cell rfl
                have HM := hid hmid
                have HX := hid hx
                have HK := hid hk
                have hne1 : o ≠ wr.heap.size := by omega
                have hne2 : w.heap.size ≠ wr.heap.size := by omega
                have hne3 : g ≠ wr.heap.size := by omega
                clear hmid hx hk hx1 hx2 hx3 hile
                go_wp2_with fail
                go_roundw
                case rel => exact ⟨i + 1, by go_num, HM.out.skip hlt (by decide) (bel_alloc (Below.refl _ _) _)⟩
                case measure => simp [intOf]; omega
              · obtain rfl : i = q.length := by omega
                have e4 : wr.cell? ⟨o, 4, none⟩ = some (.slice (some ⟨gp, 0, none⟩) O.pend.length cp) := hmid.rep.hdr.cell rfl
                have hgp := (H1.out.pend.lt gp rfl).2
                have hdel := deletePend_any 0 gp cp O.pend _ _ (fun x => x.pid == a) wr (by omega) hmid.rep.pend eg2 (fold2_any (S := fun k => k = gp) hmid.note (by omega))
                have HDEL := hid hdel
                have HM := hid hmid
                clear hdel hmid
                go_wp2_with fail
                refine HDEL.out.mono ?_
                rintro e w9 ⟨rfl, hrow9, hf9⟩
                have hogp : ¬ o = gp := by
                  rintro rfl
                  obtain ⟨c9, hc9⟩ := row_blk H1.out.pend (k := o) rfl
                  exact absurd (hc9.inj H1.out.hdr).2 (by decide)
                have hblk9 := HM.out.rep.hdr.fr hf9 hogp
                have e49 : w9.cell? ⟨o, 4, none⟩ = some (.slice (some ⟨gp, 0, none⟩) O.pend.length cp) := hblk9.cell rfl
                have hfz9 := hblk9.free 4
                have HROW9 := hid hrow9
                have HF9 := hid hf9
                clear hrow9 hf9 hblk9 HDEL
                go_wp2_with fail
                go_ret
                unfold FoldPost
                rw [HFE.out]
                refine ⟨rfl, OffTo.fr ((Fr.of_below HB5.out).trans (HM.out.fr.mono (fun k _ hk => (H2.out k).2 (.inr (.inl (by rw [hk]; rfl))))))  ?_⟩
                have hrep := HM.out.rep
                rw [List.take_length] at hrep
                exact hrep.setPend (S := S) H2.out (Below.refl _ _) (grown_of_fr HF9.out) rfl HROW9.out (.inl rfl)
          · have hqm : (O.ofPid a).length = m := hm
            have hq4 : (O.ofPid a).length ≤ 4 := Nat.le_trans (List.length_filter_le _ _) (by omega)
            have HFE : Hid (O.fold ⟨3, a, b, 1, 0⟩ = some { O with com := comAt 1 O.com (O.ofPid a), pend := O.pend.filter fun x => !(x.pid == a) }) := hid (by
              unfold POff.fold
              rw [if_neg (show ¬ ((3 : Int) = 1) by decide), if_neg (show ¬ ((3 : Int) = 2) by decide), if_pos rfl, if_neg]
              · rfl
              rintro (h9 | h9 | h9 | h9)
              · exact h9 hp
              · exact h9.2 rfl
              · exact h9 rfl
              · rw [h9] at hqm; exact hz hqm.symm)
            have hmem : ∀ x ∈ O.ofPid a, x ∈ O.pend ∧ 0 ≤ x.part ∧ x.part < O.com.length := fun x hx => by
              have h9 := (ofPid_mem.1 hx).1
              exact ⟨h9, (HOK.out.pend x h9).2.1⟩
            have hpos : ∃ x, x ∈ O.ofPid a := by
              cases hq9 : O.ofPid a with
              | nil => rw [hq9] at hqm; exact absurd hqm.symm hz
              | cons x r => exact ⟨x, by simp⟩
            obtain ⟨x0, hx0⟩ := hpos
            obtain ⟨hx1, hx2, hx3⟩ := hmem x0 hx0
            have hpl2 : 0 < O.pend.length := List.length_pos_iff.2 (fun h9 => by rw [h9] at hx1; cases hx1)
            obtain ⟨g, rfl⟩ : ∃ g, ad = some ⟨g, 0, none⟩ := by
              rcases Joins.ownsRow_forms H1.out.com with ⟨_, hz9⟩ | ⟨g, cap2, e⟩
              · omega
              · injection e with e _ _
                exact ⟨g, e⟩
            obtain ⟨gp, cp, rfl⟩ : ∃ gp cp, pv = .slice (some ⟨gp, 0, none⟩) O.pend.length cp := by
              rcases Joins.ownsRow_forms H1.out.pend with ⟨_, hz9⟩ | ⟨g9, cap2, e⟩
              · omega
              · exact ⟨g9, cap2, e⟩
            have HMEM := hid hmem
            clear hno hp hx0 hx1 hx2 hx3 hmem x0
            generalize hqq : O.ofPid a = q at hqm hq4 HFE HMEM HOF
            clear hm
            subst hqm
            go_enter Tryz.func97, Tryz.ntmps97
            go_wp2_with fail
            refine HOF.out.mono ?_
            rintro e w5 ⟨v5, rfl, hrow5, hb5⟩
            obtain ⟨g5, cap5, rfl⟩ : ∃ g5 cap5, v5 = .slice (some ⟨g5, 0, none⟩) q.length cap5 := by
              rcases Joins.ownsRow_forms hrow5 with ⟨_, hz9⟩ | ⟨g9, cap2, e⟩
              · exact absurd hz9 hz
              · exact ⟨g9, cap2, e⟩
            have z1 : w5.cell? ⟨w.heap.size, 1, none⟩ = some (.int .i64 a) := (HNB.out.below' hb5).cell rfl
            have z2 : w5.cell? ⟨w.heap.size, 2, none⟩ = some (.int .i64 b) := (HNB.out.below' hb5).cell rfl
            have z3 : w5.cell? ⟨w.heap.size, 3, none⟩ = some (.int .i64 1) := (HNB.out.below' hb5).cell rfl
            have z4 : w5.cell? ⟨w.heap.size, 4, none⟩ = some (.int .i64 0) := (HNB.out.below' hb5).cell rfl
            have HB5 := hid (bel_next HBA.out hb5)
            have HB6 := hid hb5
            have HROW5 := hid hrow5
            clear hb5 hrow5
            go_wp2_with fail
            refine (producer_is a b true _ hd1).mono ?_
            rintro e w6 ⟨rfl, rfl⟩
            go_wp2_with fail
            have hstart : DoneMid w w5 o l g cap (.slice (some ⟨gp, 0, none⟩) O.pend.length cp) O q (.slice (some ⟨g5, 0, none⟩) q.length cap5) 1 a b 0 0 w5 := by
              refine ⟨?_, HROW5.out, HNB.out.below' HB6.out, Fr.refl _ _, Nat.zero_le _⟩
              rw [comAt_nil]
              exact H1.out.fr (Fr.of_below (S := fun _ => False) HB5.out) (fun _ _ h => h)
            have HS := hid hstart
            clear hstart z1 z2 z3 z4 HROW5
            go_loopw [154] (fun ci wr => ∃ i : Nat, ci = .int .i64 i ∧ DoneMid w w5 o l g cap (.slice (some ⟨gp, 0, none⟩) O.pend.length cp) O q (.slice (some ⟨g5, 0, none⟩) q.length cap5) 1 a b 0 i wr) (fun ci _ => q.length - (intOf ci).toNat)
            case atStart => exact ⟨0, rfl, HS.out⟩
            case round =>
              obtain ⟨i, rfl, hmid⟩ := hrel
              have hile := hmid.le
              have hi0 : (0 : Int) ≤ (i : Int) := by omega
              have hgr : g < wr.heap.size := (hmid.rep.com.lt g rfl).2
              have hg5r : g5 < wr.heap.size := (hmid.row.lt g5 rfl).2
              have hwr : w.heap.size < wr.heap.size := hmid.note.lt
              have hor : o < wr.heap.size := hmid.rep.hdr.lt
              by_cases hlt : i < q.length
              · have hi1 : (i : Int) < (q.length : Int) := by omega
                obtain ⟨x, hx⟩ : ∃ x, q[i]? = some x := ⟨_, List.getElem?_eq_getElem hlt⟩
                obtain ⟨hx1, hx2, hx3⟩ := HMEM.out x (List.mem_of_getElem? hx)
                obtain ⟨k, hk⟩ : ∃ k : Nat, x.part = k := ⟨x.part.toNat, by omega⟩
                obtain ⟨f0, f1, f2, f3⟩ := PendRead.own hmid.row i x hx
                rw [hk] at f2
                have hkc : k < O.com.length := by omega
                have hk0 : (0 : Int) ≤ (k : Int) := by omega
                have hk1 : (k : Int) < (O.com.length : Int) := by omega
                have n3 : wr.cell? ⟨w.heap.size, 3, none⟩ = some (.int .i64 1) := hmid.note.cell rfl
                have e3 : wr.cell? ⟨o, 3, none⟩ = some (.slice (some ⟨g, 0, none⟩) O.com.length cap) := hmid.rep.hdr.cell rfl
                have HM := hid hmid
                have HX := hid hx
                have HK := hid hk
                have hne1 : o ≠ wr.heap.size := by omega
                have hne2 : w.heap.size ≠ wr.heap.size := by omega
                have hne3 : g ≠ wr.heap.size := by omega
                clear hmid hx hk hx1 hx2 hx3 hile
                go_wp2_with fail
                obtain ⟨y, hy⟩ : ∃ y, wr.cell? ⟨g, k, none⟩ = some y := by
                  have h9 : wr.ownsRow 0 3 1 (.slice (some ⟨g, 0, none⟩) O.com.length cap) O.com.length (comCells (comAt 1 O.com (q.take i))) := by
                    have h7 := HM.out.rep.com
                    dsimp only at h7
                    rw [comAt_len] at h7
                    exact h7
                  have h8 : k < (comCells (comAt 1 O.com (q.take i))).length := by unfold comCells; rw [List.length_map, comAt_len]; exact hkc
                  refine ⟨(comCells (comAt 1 O.com (q.take i)))[k], ?_⟩
                  rw [h9.cellAt k (by omega), List.getElem?_eq_getElem h8]
                have hfz : wr.frozen? ⟨g, k, none⟩ = false := row_free HM.out.rep.com k
                refine wp_region_last (fun w' => w'.cell? ⟨o, 3, none⟩ = some (.slice (some ⟨g, 0, none⟩) O.com.length cap) ∧ w'.cell? ⟨wr.heap.size, 2, none⟩ = some (.int .i64 k) ∧ w'.cell? ⟨wr.heap.size, 3, none⟩ = some (.int .i64 x.off)) 9 [] [0, 1, 2, 3, 4, 5, 6, 7, 8] (by kernel_rfl) (by kernel_rfl) (fun _ _ _ _ _ h => h) (by go_keep) (fun hHeld => ?_)
                iterate 9
                  refine last_take (v := ?_) rfl (by kernel_rfl) (by kernel_rfl) ?_ ?_
                  rotate_left
                  focus
                    intro w' hSw
                    try dsimp only at hSw
                    go_simp <;> with_reducible rfl
                  simp only [Act.put, List.setIfInBounds_toArray]
                refine last_step rfl (by kernel_rfl) (fun K hK => ?_)
                go_simp
                refine hK _ _ ?_
                clear hK K
                try simp only [Act.put, List.setIfInBounds_toArray, List.set_cons_zero, List.set_cons_succ]
                go_wp2_with fail
                go_roundw
                case rel => exact ⟨i + 1, by go_num, (HM.out.put HX.out HK.out (Below.refl _ _)).below (bel_alloc (Below.refl _ _) _).drew⟩
                case measure => simp [intOf]; omega
              · obtain rfl : i = q.length := by omega
                have e4 : wr.cell? ⟨o, 4, none⟩ = some (.slice (some ⟨gp, 0, none⟩) O.pend.length cp) := hmid.rep.hdr.cell rfl
                have hgp := (H1.out.pend.lt gp rfl).2
                have hdel := deletePend_any 0 gp cp O.pend _ _ (fun x => x.pid == a) wr (by omega) hmid.rep.pend eg2 (fold2_any (S := fun k => k = gp) hmid.note (by omega))
                have HDEL := hid hdel
                have HM := hid hmid
                clear hdel hmid
                go_wp2_with fail
                refine HDEL.out.mono ?_
                rintro e w9 ⟨rfl, hrow9, hf9⟩
                have hogp : ¬ o = gp := by
                  rintro rfl
                  obtain ⟨c9, hc9⟩ := row_blk H1.out.pend (k := o) rfl
                  exact absurd (hc9.inj H1.out.hdr).2 (by decide)
                have hblk9 := HM.out.rep.hdr.fr hf9 hogp
                have e49 : w9.cell? ⟨o, 4, none⟩ = some (.slice (some ⟨gp, 0, none⟩) O.pend.length cp) := hblk9.cell rfl
                have hfz9 := hblk9.free 4
                have HROW9 := hid hrow9
                have HF9 := hid hf9
                clear hrow9 hf9 hblk9 HDEL
                go_wp2_with fail
                go_ret
                unfold FoldPost
                rw [HFE.out]
                refine ⟨rfl, OffTo.fr ((Fr.of_below HB5.out).trans (HM.out.fr.mono (fun k _ hk => (H2.out k).2 (.inr (.inl (by rw [hk]; rfl))))))  ?_⟩
                have hrep := HM.out.rep
                rw [List.take_length] at hrep
                exact hrep.setPend (S := S) H2.out (Below.refl _ _) (grown_of_fr HF9.out) rfl HROW9.out (.inl rfl)
      · have hz1 : (d != 0) = true := by simpa using hdz
        have hz2 : decide (d = 0) = false := decide_eq_false hdz
        have HF := hid (hno (.inr (.inr (.inl hdz))))
        clear hno hp hdz
        rcases hc01 with rfl | rfl
        · go_enter Tryz.func97, Tryz.ntmps97
          go_wp2_with fail
          refine HOF.out.mono ?_
          rintro e w5 ⟨v5, rfl, hrow5, hb5⟩
          obtain ⟨ad5, cap5, rfl⟩ := row_slice hrow5
          have z1 : w5.cell? ⟨w.heap.size, 1, none⟩ = some (.int .i64 a) := (HNB.out.below' hb5).cell rfl
          have z2 : w5.cell? ⟨w.heap.size, 2, none⟩ = some (.int .i64 b) := (HNB.out.below' hb5).cell rfl
          have z3 : w5.cell? ⟨w.heap.size, 3, none⟩ = some (.int .i64 0) := (HNB.out.below' hb5).cell rfl
          have z4 : w5.cell? ⟨w.heap.size, 4, none⟩ = some (.int .i64 d) := (HNB.out.below' hb5).cell rfl
          have HB5 := hid (bel_next HBA.out hb5)
          have HB6 := hid hb5
          have HROW5 := hid hrow5
          clear hb5 hrow5
          go_wp2_with fail
          refine (producer_is a b true _ hd1).mono ?_
          rintro e w6 ⟨rfl, rfl⟩
          go_wp2_with fail
          go_ret
          exact FoldPost.no HO.out HB5.out HF.out
        · go_enter Tryz.func97, Tryz.ntmps97
          go_wp2_with fail
          refine HOF.out.mono ?_
          rintro e w5 ⟨v5, rfl, hrow5, hb5⟩
          obtain ⟨ad5, cap5, rfl⟩ := row_slice hrow5
          have z1 : w5.cell? ⟨w.heap.size, 1, none⟩ = some (.int .i64 a) := (HNB.out.below' hb5).cell rfl
          have z2 : w5.cell? ⟨w.heap.size, 2, none⟩ = some (.int .i64 b) := (HNB.out.below' hb5).cell rfl
          have z3 : w5.cell? ⟨w.heap.size, 3, none⟩ = some (.int .i64 1) := (HNB.out.below' hb5).cell rfl
          have z4 : w5.cell? ⟨w.heap.size, 4, none⟩ = some (.int .i64 d) := (HNB.out.below' hb5).cell rfl
          have HB5 := hid (bel_next HBA.out hb5)
          have HB6 := hid hb5
          have HROW5 := hid hrow5
          clear hb5 hrow5
          go_wp2_with fail
          refine (producer_is a b true _ hd1).mono ?_
          rintro e w6 ⟨rfl, rfl⟩
          go_wp2_with fail
          go_ret
          exact FoldPost.no HO.out HB5.out HF.out
    · have hz1 : (c != 0) = true := by simpa using fun h9 => hc01 (.inl h9)
      have hz2 : decide (c = 0) = false := decide_eq_false (fun h9 => hc01 (.inl h9))
      have hz3 : (c != 1) = true := by simpa using fun h9 => hc01 (.inr h9)
      have hz4 : decide (c = 1) = false := decide_eq_false (fun h9 => hc01 (.inr h9))
      have HF := hid (hno (.inr (.inl ⟨fun h9 => hc01 (.inl h9), fun h9 => hc01 (.inr h9)⟩)))
      clear hno hp hc01
      go_enter Tryz.func97, Tryz.ntmps97
      go_wp2_with fail
      refine HOF.out.mono ?_
      rintro e w5 ⟨v5, rfl, hrow5, hb5⟩
      obtain ⟨ad5, cap5, rfl⟩ := row_slice hrow5
      have z1 : w5.cell? ⟨w.heap.size, 1, none⟩ = some (.int .i64 a) := (HNB.out.below' hb5).cell rfl
      have z2 : w5.cell? ⟨w.heap.size, 2, none⟩ = some (.int .i64 b) := (HNB.out.below' hb5).cell rfl
      have z3 : w5.cell? ⟨w.heap.size, 3, none⟩ = some (.int .i64 c) := (HNB.out.below' hb5).cell rfl
      have z4 : w5.cell? ⟨w.heap.size, 4, none⟩ = some (.int .i64 d) := (HNB.out.below' hb5).cell rfl
      have HB5 := hid (bel_next HBA.out hb5)
      have HB6 := hid hb5
      have HROW5 := hid hrow5
      clear hb5 hrow5
      go_wp2_with fail
      refine (producer_is a b true _ hd1).mono ?_
      rintro e w6 ⟨rfl, rfl⟩
      go_wp2_with fail
      go_ret
      exact FoldPost.no HO.out HB5.out HF.out
  · have hd1 := decide_eq_false hp
    have HF := hid (hno (.inl hp))
    clear hno hp
    go_enter Tryz.func97, Tryz.ntmps97
    go_wp2_with fail
    refine HOF.out.mono ?_
    rintro e w5 ⟨v5, rfl, hrow5, hb5⟩
    obtain ⟨ad5, cap5, rfl⟩ := row_slice hrow5
    have z1 : w5.cell? ⟨w.heap.size, 1, none⟩ = some (.int .i64 a) := (HNB.out.below' hb5).cell rfl
    have z2 : w5.cell? ⟨w.heap.size, 2, none⟩ = some (.int .i64 b) := (HNB.out.below' hb5).cell rfl
    have z3 : w5.cell? ⟨w.heap.size, 3, none⟩ = some (.int .i64 c) := (HNB.out.below' hb5).cell rfl
    have z4 : w5.cell? ⟨w.heap.size, 4, none⟩ = some (.int .i64 d) := (HNB.out.below' hb5).cell rfl
    have HB5 := hid (bel_next HBA.out hb5)
    have HB6 := hid hb5
    have HROW5 := hid hrow5
    clear hb5 hrow5
    go_wp2_with fail
    refine (producer_is a b false _ hd1).mono ?_
    rintro e w6 ⟨rfl, rfl⟩
    go_wp2_with fail
    go_ret
    exact FoldPost.no HO.out HB5.out HF.out

set_option maxHeartbeats 1000000 in
theorem fold_other {w : World} {o l : Nat} {S : Nat → Prop} {O : POff} (k a b c d : Int) (h : OffAt w o l S O) (h1 : k ≠ 1) (h2 : k ≠ 2) (h3 : k ≠ 3) :
    Calls Tryz.prog 97 #[.pointer (some ⟨o, 0, none⟩), (PNote.mk k a b c d).val] w (FoldPost w o l S O ⟨k, a, b, c, d⟩) := by
  have HO := hid h
  have HF : Hid (O.fold ⟨k, a, b, c, d⟩ = none) := hid (by
    unfold POff.fold
    rw [if_neg h1, if_neg h2, if_neg h3])
  have d1 : decide (k = 1) = false := decide_eq_false h1
  have d2 : decide (k = 2) = false := decide_eq_false h2
  have d3 : decide (k = 3) = false := decide_eq_false h3
  have b1 : (k == 1) = false := beq_eq_false_iff_ne.2 h1
  have b2 : (k == 2) = false := beq_eq_false_iff_ne.2 h2
  have b3 : (k == 3) = false := beq_eq_false_iff_ne.2 h3
  have HB : Hid (Below w.heap.size w (w.alloc (.cells #[.int .i64 k, .int .i64 a, .int .i64 b, .int .i64 c, .int .i64 d] 171))) := hid (bel_alloc (Below.refl _ _) _)
  clear h h1 h2 h3
  unfold PNote.val
  go_enter Tryz.func97, Tryz.ntmps97
  go_wp2_with fail
  go_ret
  exact FoldPost.no HO.out HB.out HF.out

/-- fold, at any note. -/
theorem fold_any {w : World} {o l : Nat} {S : Nat → Prop} {O : POff} (n : PNote) (h : OffAt w o l S O) (hok : O.Ok) (hlen : O.com.length ≤ 4) :
    Calls Tryz.prog 97 #[ptr o, n.val] w (FoldPost w o l S O n) := by
  obtain ⟨k, a, b, c, d⟩ := n
  by_cases h1 : k = 1
  · subst h1; exact fold_gen a b c d h
  · by_cases h2 : k = 2
    · subst h2; exact fold_pend a b c d h hok hlen
    · by_cases h3 : k = 3
      · subst h3; exact fold_done a b c d h hok hlen
      · exact fold_other k a b c d h h1 h2 h3
end Go.Proofs.YtjodkcjlipecdaaGreatDoor
