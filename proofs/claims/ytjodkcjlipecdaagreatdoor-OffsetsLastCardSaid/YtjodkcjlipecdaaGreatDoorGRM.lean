/-
  offsets: fold: the walk. Conditions: numbers that fit.
-/
import Derived.Test.YtjodkcjlipecdaaGreatDoorGQM
import Derived.BigQuiet
import Derived.Deep.QuietTactic
import Derived.Deep.DeepCutAuto
import Derived.BigRegion
set_option maxRecDepth 100000
namespace Go.Proofs.YtjodkcjlipecdaaGreatDoor
open Go.RowKit

def PNote.val (n : PNote) : Value := .agg #[.int .i64 n.kind, .int .i64 n.a, .int .i64 n.b, .int .i64 n.c, .int .i64 n.d]

def FoldPost (w : World) (o l : Nat) (S : Nat → Prop) (O : POff) (n : PNote) (e : Ending) (w' : World) : Prop :=
  e = .returned (.bool (O.fold n).isSome) ∧ OffTo w w' o l S ((O.fold n).getD O)

theorem FoldPost.no {w w' : World} {o l : Nat} {S : Nat → Prop} {O : POff} {n : PNote} (h : OffAt w o l S O) (hb : Below w.heap.size w w') (hf : O.fold n = none) : FoldPost w o l S O n (.returned (.bool false)) w' := by
  unfold FoldPost
  rw [hf]
  exact ⟨rfl, OffTo.of_below h hb⟩

theorem within2 (b c : Nat) (x y : Int) (p : Bool) (w : World) (hp : decide (isNum x ∧ isNum y) = p) (h0 : w.cell? ⟨b, 0, none⟩ = some (.int .i64 x)) (h1 : w.cell? ⟨b, 1, none⟩ = some (.int .i64 y)) :
    Calls Tryz.prog 87 #[.slice (some ⟨b, 0, none⟩) 2 c] w fun e w' => e = .returned (.bool p) ∧ w = w' := by
  have h := within_any b c [x, y] w (by simp) (by
    intro j z hj
    rcases j with _ | _ | j
    · simp at hj; subst hj; exact h0
    · simp at hj; subst hj; exact h1
    · simp at hj)
  have e : decide (∀ z ∈ [x, y], isNum z) = decide (isNum x ∧ isNum y) := by simp
  rw [e, hp] at h
  exact h

theorem within1 (b c : Nat) (x : Int) (p : Bool) (w : World) (hp : decide (isNum x) = p) (h0 : w.cell? ⟨b, 0, none⟩ = some (.int .i64 x)) :
    Calls Tryz.prog 87 #[.slice (some ⟨b, 0, none⟩) 1 c] w fun e w' => e = .returned (.bool p) ∧ w = w' := by
  have h := within_any b c [x] w (by simp) (by
    intro j z hj
    rcases j with _ | j
    · simp at hj; subst hj; exact h0
    · simp at hj)
  have e : decide (∀ z ∈ [x], isNum z) = decide (isNum x) := by simp
  rw [e, hp] at h
  exact h

set_option maxHeartbeats 4000000 in
theorem fold_gen {w : World} {o l : Nat} {S : Nat → Prop} {O : POff} (a b c d : Int) (h : OffAt w o l S O) :
    Calls Tryz.prog 97 #[.pointer (some ⟨o, 0, none⟩), (PNote.mk 1 a b c d).val] w (FoldPost w o l S O ⟨1, a, b, c, d⟩) := by
  have HO := hid h
  obtain ⟨cv, pv, h1, h2⟩ := h
  have H1 := hid h1
  have H2 := hid h2
  obtain ⟨c0, c1, c2, c3, c4⟩ := h1.cells
  have ho := h1.hdr.lt
  have hne : o ≠ w.heap.size := by omega
  clear h1 h2 c0 c3 c4
  unfold PNote.val
  have HB : Hid (Below w.heap.size w (w.alloc (.cells #[.int .i64 1, .int .i64 a, .int .i64 b, .int .i64 c, .int .i64 d] 171))) := hid (bel_alloc (Below.refl _ _) _)
  have hno : (¬ isNum a ∨ ¬ isNum b ∨ a < O.gen ∨ b < O.next ∨ c ≠ 0 ∨ d ≠ 0) → O.fold ⟨1, a, b, c, d⟩ = none := by
    intro h9
    unfold POff.fold
    rw [if_pos rfl, if_pos h9]
  by_cases hin : isNum a ∧ isNum b
  · have hd := decide_eq_true hin
    by_cases hg : a < O.gen
    · have hl1 := decide_eq_true hg
      have HF := hid (hno (.inr (.inr (.inl hg))))
      clear hno hin hg
      go_enter Tryz.func97, Tryz.ntmps97
      go_wp2_with fail
      refine wp_region_lex (fun w' => w'.cell? ⟨w.heap.size, 1, none⟩ = some (.int .i64 a) ∧ w'.cell? ⟨w.heap.size, 2, none⟩ = some (.int .i64 b) ∧ w'.cell? ⟨w.heap.size, 3, none⟩ = some (.int .i64 c) ∧ w'.cell? ⟨w.heap.size, 4, none⟩ = some (.int .i64 d) ∧ w'.cell? ⟨o, 1, none⟩ = some (.int .i64 O.gen) ∧ w'.cell? ⟨o, 2, none⟩ = some (.int .i64 O.next)) [4, 5] (by kernel_rfl) (by kernel_rfl) (fun _ _ _ _ _ h => h) (by go_keep) (fun hHeld => ?_)
      iterate 4
        refine lex_take (v := ?_) (by kernel_rfl) (by kernel_rfl) ?_ ?_
        rotate_left
        focus
          intro w' hSw
          try dsimp only at hSw
          go_simp <;> with_reducible rfl
        simp only [Act.put, List.setIfInBounds_toArray, List.set_cons_zero, List.set_cons_succ]
      refine lex_step (by kernel_rfl) (by kernel_rfl) (fun K hK => ?_)
      go_simp
      refine hK.out _ _ (by go_keep) (fun hHeld => ?_)
      clear hK K
      try simp only [Act.put, List.setIfInBounds_toArray, List.set_cons_zero, List.set_cons_succ]
      refine lex_step (by kernel_rfl) (by kernel_rfl) (fun K hK => ?_)
      go_simp
      refine (within2 _ _ a b true _ hd (by go_simp) (by go_simp)).mono ?_
      rintro e w2 ⟨rfl, rfl⟩
      go_simp
      refine hK.out _ _ (by go_keep) (fun hHeld => ?_)
      clear hK K
      try simp only [Act.put, List.setIfInBounds_toArray, List.set_cons_zero, List.set_cons_succ]
      iterate 11
        refine lex_take (v := ?_) (by kernel_rfl) (by kernel_rfl) ?_ ?_
        rotate_left
        focus
          intro w' hSw
          try dsimp only at hSw
          go_simp <;> with_reducible rfl
        simp only [Act.put, List.setIfInBounds_toArray, List.set_cons_zero, List.set_cons_succ]
      iterate 7
        refine lex_skip (by kernel_rfl) ?_
        simp only [Act.put, List.setIfInBounds_toArray, List.set_cons_zero, List.set_cons_succ]
      iterate 2
        refine lex_take (v := ?_) (by kernel_rfl) (by kernel_rfl) ?_ ?_
        rotate_left
        focus
          intro w' hSw
          try dsimp only at hSw
          go_simp <;> with_reducible rfl
        simp only [Act.put, List.setIfInBounds_toArray, List.set_cons_zero, List.set_cons_succ]
      iterate 3
        refine lex_skip (by kernel_rfl) ?_
        simp only [Act.put, List.setIfInBounds_toArray, List.set_cons_zero, List.set_cons_succ]
      iterate 2
        refine lex_take (v := ?_) (by kernel_rfl) (by kernel_rfl) ?_ ?_
        rotate_left
        focus
          intro w' hSw
          try dsimp only at hSw
          go_simp <;> with_reducible rfl
        simp only [Act.put, List.setIfInBounds_toArray, List.set_cons_zero, List.set_cons_succ]
      iterate 3
        refine lex_skip (by kernel_rfl) ?_
        simp only [Act.put, List.setIfInBounds_toArray, List.set_cons_zero, List.set_cons_succ]
      iterate 1
        refine lex_take (v := ?_) (by kernel_rfl) (by kernel_rfl) ?_ ?_
        rotate_left
        focus
          intro w' hSw
          try dsimp only at hSw
          go_simp <;> with_reducible rfl
        simp only [Act.put, List.setIfInBounds_toArray, List.set_cons_zero, List.set_cons_succ]
      refine lex_nil ?_
      go_wp2_with fail
      go_ret
      exact FoldPost.no HO.out (((HB.out.drew).alloc (by simp) _)) HF.out
    · have hl1 := decide_eq_false hg
      by_cases hn : b < O.next
      · have hl2 := decide_eq_true hn
        have HF := hid (hno (.inr (.inr (.inr (.inl hn)))))
        clear hno hin hg hn
        go_enter Tryz.func97, Tryz.ntmps97
        go_wp2_with fail
        refine wp_region_lex (fun w' => w'.cell? ⟨w.heap.size, 1, none⟩ = some (.int .i64 a) ∧ w'.cell? ⟨w.heap.size, 2, none⟩ = some (.int .i64 b) ∧ w'.cell? ⟨w.heap.size, 3, none⟩ = some (.int .i64 c) ∧ w'.cell? ⟨w.heap.size, 4, none⟩ = some (.int .i64 d) ∧ w'.cell? ⟨o, 1, none⟩ = some (.int .i64 O.gen) ∧ w'.cell? ⟨o, 2, none⟩ = some (.int .i64 O.next)) [4, 5] (by kernel_rfl) (by kernel_rfl) (fun _ _ _ _ _ h => h) (by go_keep) (fun hHeld => ?_)
        iterate 4
          refine lex_take (v := ?_) (by kernel_rfl) (by kernel_rfl) ?_ ?_
          rotate_left
          focus
            intro w' hSw
            try dsimp only at hSw
            go_simp <;> with_reducible rfl
          simp only [Act.put, List.setIfInBounds_toArray, List.set_cons_zero, List.set_cons_succ]
        refine lex_step (by kernel_rfl) (by kernel_rfl) (fun K hK => ?_)
        go_simp
        refine hK.out _ _ (by go_keep) (fun hHeld => ?_)
        clear hK K
        try simp only [Act.put, List.setIfInBounds_toArray, List.set_cons_zero, List.set_cons_succ]
        refine lex_step (by kernel_rfl) (by kernel_rfl) (fun K hK => ?_)
        go_simp
        refine (within2 _ _ a b true _ hd (by go_simp) (by go_simp)).mono ?_
        rintro e w2 ⟨rfl, rfl⟩
        go_simp
        refine hK.out _ _ (by go_keep) (fun hHeld => ?_)
        clear hK K
        try simp only [Act.put, List.setIfInBounds_toArray, List.set_cons_zero, List.set_cons_succ]
        iterate 20
          refine lex_take (v := ?_) (by kernel_rfl) (by kernel_rfl) ?_ ?_
          rotate_left
          focus
            intro w' hSw
            try dsimp only at hSw
            go_simp <;> with_reducible rfl
          simp only [Act.put, List.setIfInBounds_toArray, List.set_cons_zero, List.set_cons_succ]
        iterate 3
          refine lex_skip (by kernel_rfl) ?_
          simp only [Act.put, List.setIfInBounds_toArray, List.set_cons_zero, List.set_cons_succ]
        iterate 2
          refine lex_take (v := ?_) (by kernel_rfl) (by kernel_rfl) ?_ ?_
          rotate_left
          focus
            intro w' hSw
            try dsimp only at hSw
            go_simp <;> with_reducible rfl
          simp only [Act.put, List.setIfInBounds_toArray, List.set_cons_zero, List.set_cons_succ]
        iterate 3
          refine lex_skip (by kernel_rfl) ?_
          simp only [Act.put, List.setIfInBounds_toArray, List.set_cons_zero, List.set_cons_succ]
        iterate 1
          refine lex_take (v := ?_) (by kernel_rfl) (by kernel_rfl) ?_ ?_
          rotate_left
          focus
            intro w' hSw
            try dsimp only at hSw
            go_simp <;> with_reducible rfl
          simp only [Act.put, List.setIfInBounds_toArray, List.set_cons_zero, List.set_cons_succ]
        refine lex_nil ?_
        go_wp2_with fail
        go_ret
        exact FoldPost.no HO.out (((HB.out.drew).alloc (by simp) _)) HF.out
      · have hl2 := decide_eq_false hn
        by_cases hc : c = 0
        · by_cases hdz : d = 0
          · have HF : Hid (O.fold ⟨1, a, b, 0, 0⟩ = some { O with gen := a, next := b }) := hid (by
              unfold POff.fold
              rw [if_pos rfl, if_neg]
              rintro (h9 | h9 | h9 | h9 | h9 | h9)
              · exact h9 hin.1
              · exact h9 hin.2
              · exact hg h9
              · exact hn h9
              · exact h9 rfl
              · exact h9 rfl)
            subst hc hdz
            clear hno hin hg hn
            go_enter Tryz.func97, Tryz.ntmps97
            go_wp2_with fail
            refine wp_region_lex (fun w' => w'.cell? ⟨w.heap.size, 1, none⟩ = some (.int .i64 a) ∧ w'.cell? ⟨w.heap.size, 2, none⟩ = some (.int .i64 b) ∧ w'.cell? ⟨w.heap.size, 3, none⟩ = some (.int .i64 0) ∧ w'.cell? ⟨w.heap.size, 4, none⟩ = some (.int .i64 0) ∧ w'.cell? ⟨o, 1, none⟩ = some (.int .i64 O.gen) ∧ w'.cell? ⟨o, 2, none⟩ = some (.int .i64 O.next)) [4, 5] (by kernel_rfl) (by kernel_rfl) (fun _ _ _ _ _ h => h) (by go_keep) (fun hHeld => ?_)
            iterate 4
              refine lex_take (v := ?_) (by kernel_rfl) (by kernel_rfl) ?_ ?_
              rotate_left
              focus
                intro w' hSw
                try dsimp only at hSw
                go_simp <;> with_reducible rfl
              simp only [Act.put, List.setIfInBounds_toArray, List.set_cons_zero, List.set_cons_succ]
            refine lex_step (by kernel_rfl) (by kernel_rfl) (fun K hK => ?_)
            go_simp
            refine hK.out _ _ (by go_keep) (fun hHeld => ?_)
            clear hK K
            try simp only [Act.put, List.setIfInBounds_toArray, List.set_cons_zero, List.set_cons_succ]
            refine lex_step (by kernel_rfl) (by kernel_rfl) (fun K hK => ?_)
            go_simp
            refine (within2 _ _ a b true _ hd (by go_simp) (by go_simp)).mono ?_
            rintro e w2 ⟨rfl, rfl⟩
            go_simp
            refine hK.out _ _ (by go_keep) (fun hHeld => ?_)
            clear hK K
            try simp only [Act.put, List.setIfInBounds_toArray, List.set_cons_zero, List.set_cons_succ]
            iterate 29
              refine lex_take (v := ?_) (by kernel_rfl) (by kernel_rfl) ?_ ?_
              rotate_left
              focus
                intro w' hSw
                try dsimp only at hSw
                go_simp <;> with_reducible rfl
              simp only [Act.put, List.setIfInBounds_toArray, List.set_cons_zero, List.set_cons_succ]
            refine lex_nil ?_
            have hf1 : w.frozen? ⟨o, 1, none⟩ = false := H1.out.hdr.free 1
            have hf2 : w.frozen? ⟨o, 2, none⟩ = false := H1.out.hdr.free 2
            go_wp2_with fail
            go_region
            all_goals
              go_wp2_with fail
              go_ret
              unfold FoldPost
              rw [HF.out]
              exact ⟨rfl, (H1.out.gen H2.out a b).below ((bel_alloc (bel_alloc (Below.refl _ _) _) _).drew.drew)⟩
          · have hz1 : (d != 0) = true := by simpa using hdz
            have hz2 : decide (d = 0) = false := decide_eq_false hdz
            have HF := hid (hno (.inr (.inr (.inr (.inr (.inr hdz))))))
            subst hc
            clear hno hin hg hn hdz
            go_enter Tryz.func97, Tryz.ntmps97
            go_wp2_with fail
            refine wp_region_lex (fun w' => w'.cell? ⟨w.heap.size, 1, none⟩ = some (.int .i64 a) ∧ w'.cell? ⟨w.heap.size, 2, none⟩ = some (.int .i64 b) ∧ w'.cell? ⟨w.heap.size, 3, none⟩ = some (.int .i64 0) ∧ w'.cell? ⟨w.heap.size, 4, none⟩ = some (.int .i64 d) ∧ w'.cell? ⟨o, 1, none⟩ = some (.int .i64 O.gen) ∧ w'.cell? ⟨o, 2, none⟩ = some (.int .i64 O.next)) [4, 5] (by kernel_rfl) (by kernel_rfl) (fun _ _ _ _ _ h => h) (by go_keep) (fun hHeld => ?_)
            iterate 4
              refine lex_take (v := ?_) (by kernel_rfl) (by kernel_rfl) ?_ ?_
              rotate_left
              focus
                intro w' hSw
                try dsimp only at hSw
                go_simp <;> with_reducible rfl
              simp only [Act.put, List.setIfInBounds_toArray, List.set_cons_zero, List.set_cons_succ]
            refine lex_step (by kernel_rfl) (by kernel_rfl) (fun K hK => ?_)
            go_simp
            refine hK.out _ _ (by go_keep) (fun hHeld => ?_)
            clear hK K
            try simp only [Act.put, List.setIfInBounds_toArray, List.set_cons_zero, List.set_cons_succ]
            refine lex_step (by kernel_rfl) (by kernel_rfl) (fun K hK => ?_)
            go_simp
            refine (within2 _ _ a b true _ hd (by go_simp) (by go_simp)).mono ?_
            rintro e w2 ⟨rfl, rfl⟩
            go_simp
            refine hK.out _ _ (by go_keep) (fun hHeld => ?_)
            clear hK K
            try simp only [Act.put, List.setIfInBounds_toArray, List.set_cons_zero, List.set_cons_succ]
            iterate 29
              refine lex_take (v := ?_) (by kernel_rfl) (by kernel_rfl) ?_ ?_
              rotate_left
              focus
                intro w' hSw
                try dsimp only at hSw
                go_simp <;> with_reducible rfl
              simp only [Act.put, List.setIfInBounds_toArray, List.set_cons_zero, List.set_cons_succ]
            refine lex_nil ?_
            go_wp2_with fail
            go_ret
            exact FoldPost.no HO.out (((HB.out.drew).alloc (by simp) _)) HF.out
        · have hz1 : (c != 0) = true := by simpa using hc
          have hz2 : decide (c = 0) = false := decide_eq_false hc
          have HF := hid (hno (.inr (.inr (.inr (.inr (.inl hc))))))
          clear hno hin hg hn hc
          go_enter Tryz.func97, Tryz.ntmps97
          go_wp2_with fail
          refine wp_region_lex (fun w' => w'.cell? ⟨w.heap.size, 1, none⟩ = some (.int .i64 a) ∧ w'.cell? ⟨w.heap.size, 2, none⟩ = some (.int .i64 b) ∧ w'.cell? ⟨w.heap.size, 3, none⟩ = some (.int .i64 c) ∧ w'.cell? ⟨w.heap.size, 4, none⟩ = some (.int .i64 d) ∧ w'.cell? ⟨o, 1, none⟩ = some (.int .i64 O.gen) ∧ w'.cell? ⟨o, 2, none⟩ = some (.int .i64 O.next)) [4, 5] (by kernel_rfl) (by kernel_rfl) (fun _ _ _ _ _ h => h) (by go_keep) (fun hHeld => ?_)
          iterate 4
            refine lex_take (v := ?_) (by kernel_rfl) (by kernel_rfl) ?_ ?_
            rotate_left
            focus
              intro w' hSw
              try dsimp only at hSw
              go_simp <;> with_reducible rfl
            simp only [Act.put, List.setIfInBounds_toArray, List.set_cons_zero, List.set_cons_succ]
          refine lex_step (by kernel_rfl) (by kernel_rfl) (fun K hK => ?_)
          go_simp
          refine hK.out _ _ (by go_keep) (fun hHeld => ?_)
          clear hK K
          try simp only [Act.put, List.setIfInBounds_toArray, List.set_cons_zero, List.set_cons_succ]
          refine lex_step (by kernel_rfl) (by kernel_rfl) (fun K hK => ?_)
          go_simp
          refine (within2 _ _ a b true _ hd (by go_simp) (by go_simp)).mono ?_
          rintro e w2 ⟨rfl, rfl⟩
          go_simp
          refine hK.out _ _ (by go_keep) (fun hHeld => ?_)
          clear hK K
          try simp only [Act.put, List.setIfInBounds_toArray, List.set_cons_zero, List.set_cons_succ]
          iterate 25
            refine lex_take (v := ?_) (by kernel_rfl) (by kernel_rfl) ?_ ?_
            rotate_left
            focus
              intro w' hSw
              try dsimp only at hSw
              go_simp <;> with_reducible rfl
            simp only [Act.put, List.setIfInBounds_toArray, List.set_cons_zero, List.set_cons_succ]
          iterate 3
            refine lex_skip (by kernel_rfl) ?_
            simp only [Act.put, List.setIfInBounds_toArray, List.set_cons_zero, List.set_cons_succ]
          iterate 1
            refine lex_take (v := ?_) (by kernel_rfl) (by kernel_rfl) ?_ ?_
            rotate_left
            focus
              intro w' hSw
              try dsimp only at hSw
              go_simp <;> with_reducible rfl
            simp only [Act.put, List.setIfInBounds_toArray, List.set_cons_zero, List.set_cons_succ]
          refine lex_nil ?_
          go_wp2_with fail
          go_ret
          exact FoldPost.no HO.out (((HB.out.drew).alloc (by simp) _)) HF.out
  · have hd := decide_eq_false hin
    have HF := hid (hno (Classical.or_iff_not_imp_left.2 fun h9 => .inl fun h10 => hin ⟨Classical.not_not.1 h9, h10⟩))
    clear hno hin
    go_enter Tryz.func97, Tryz.ntmps97
    go_wp2_with fail
    refine wp_region_lex (fun w' => w'.cell? ⟨w.heap.size, 1, none⟩ = some (.int .i64 a) ∧ w'.cell? ⟨w.heap.size, 2, none⟩ = some (.int .i64 b) ∧ w'.cell? ⟨w.heap.size, 3, none⟩ = some (.int .i64 c) ∧ w'.cell? ⟨w.heap.size, 4, none⟩ = some (.int .i64 d) ∧ w'.cell? ⟨o, 1, none⟩ = some (.int .i64 O.gen) ∧ w'.cell? ⟨o, 2, none⟩ = some (.int .i64 O.next)) [4, 5] (by kernel_rfl) (by kernel_rfl) (fun _ _ _ _ _ h => h) (by go_keep) (fun hHeld => ?_)
    iterate 4
      refine lex_take (v := ?_) (by kernel_rfl) (by kernel_rfl) ?_ ?_
      rotate_left
      focus
        intro w' hSw
        try dsimp only at hSw
        go_simp <;> with_reducible rfl
      simp only [Act.put, List.setIfInBounds_toArray, List.set_cons_zero, List.set_cons_succ]
    refine lex_step (by kernel_rfl) (by kernel_rfl) (fun K hK => ?_)
    go_simp
    refine hK.out _ _ (by go_keep) (fun hHeld => ?_)
    clear hK K
    try simp only [Act.put, List.setIfInBounds_toArray, List.set_cons_zero, List.set_cons_succ]
    refine lex_step (by kernel_rfl) (by kernel_rfl) (fun K hK => ?_)
    go_simp
    refine (within2 _ _ a b false _ hd (by go_simp) (by go_simp)).mono ?_
    rintro e w2 ⟨rfl, rfl⟩
    go_simp
    refine hK.out _ _ (by go_keep) (fun hHeld => ?_)
    clear hK K
    try simp only [Act.put, List.setIfInBounds_toArray, List.set_cons_zero, List.set_cons_succ]
    iterate 2
      refine lex_take (v := ?_) (by kernel_rfl) (by kernel_rfl) ?_ ?_
      rotate_left
      focus
        intro w' hSw
        try dsimp only at hSw
        go_simp <;> with_reducible rfl
      simp only [Act.put, List.setIfInBounds_toArray, List.set_cons_zero, List.set_cons_succ]
    iterate 7
      refine lex_skip (by kernel_rfl) ?_
      simp only [Act.put, List.setIfInBounds_toArray, List.set_cons_zero, List.set_cons_succ]
    iterate 2
      refine lex_take (v := ?_) (by kernel_rfl) (by kernel_rfl) ?_ ?_
      rotate_left
      focus
        intro w' hSw
        try dsimp only at hSw
        go_simp <;> with_reducible rfl
      simp only [Act.put, List.setIfInBounds_toArray, List.set_cons_zero, List.set_cons_succ]
    iterate 7
      refine lex_skip (by kernel_rfl) ?_
      simp only [Act.put, List.setIfInBounds_toArray, List.set_cons_zero, List.set_cons_succ]
    iterate 2
      refine lex_take (v := ?_) (by kernel_rfl) (by kernel_rfl) ?_ ?_
      rotate_left
      focus
        intro w' hSw
        try dsimp only at hSw
        go_simp <;> with_reducible rfl
      simp only [Act.put, List.setIfInBounds_toArray, List.set_cons_zero, List.set_cons_succ]
    iterate 3
      refine lex_skip (by kernel_rfl) ?_
      simp only [Act.put, List.setIfInBounds_toArray, List.set_cons_zero, List.set_cons_succ]
    iterate 2
      refine lex_take (v := ?_) (by kernel_rfl) (by kernel_rfl) ?_ ?_
      rotate_left
      focus
        intro w' hSw
        try dsimp only at hSw
        go_simp <;> with_reducible rfl
      simp only [Act.put, List.setIfInBounds_toArray, List.set_cons_zero, List.set_cons_succ]
    iterate 3
      refine lex_skip (by kernel_rfl) ?_
      simp only [Act.put, List.setIfInBounds_toArray, List.set_cons_zero, List.set_cons_succ]
    iterate 1
      refine lex_take (v := ?_) (by kernel_rfl) (by kernel_rfl) ?_ ?_
      rotate_left
      focus
        intro w' hSw
        try dsimp only at hSw
        go_simp <;> with_reducible rfl
      simp only [Act.put, List.setIfInBounds_toArray, List.set_cons_zero, List.set_cons_succ]
    refine lex_nil ?_
    go_wp2_with fail
    go_ret
    exact FoldPost.no HO.out (((HB.out.drew).alloc (by simp) _)) HF.out
end Go.Proofs.YtjodkcjlipecdaaGreatDoor
