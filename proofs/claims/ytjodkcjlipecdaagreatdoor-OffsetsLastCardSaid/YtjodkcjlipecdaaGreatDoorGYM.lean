/-
  Chapter 11's laws: a deed's cells, aimed, does: the walks. No conditions.
  Chapter 11's laws: deeds that came in, and few: the walk. No conditions but deeds that read.
-/
import Derived.Test.YtjodkcjlipecdaaGreatDoorGUM
import Derived.Test.YtjodkcjlipecdaaGreatDoorGQM
import Derived.Test.YtjodkcjlipecdaaGreatDoorGIM
import Derived.Deep.DeepCutAuto
import Derived.Deep.Slices
set_option maxRecDepth 100000
namespace Go.Proofs.YtjodkcjlipecdaaGreatDoor
open Go.RowKit

def odCells (x : ODeed) (K : Value) : List Value := [.int .i64 x.kind, .int .i64 x.a, .int .i64 x.epoch, .int .i64 x.part, .int .i64 x.frm, .int .i64 x.off, .bool x.yes, .bool x.near, K]


set_option maxHeartbeats 1000000 in
theorem aimed_ret {w w1 : World} {p : Nat} {x : ODeed} {K : Value} {tm : Array Value} (hp : tm[8]? = some (.pointer (some ⟨p, 0, none⟩))) (hb : Blk w1 p (odCells x K).toArray 68) (hB : Below w.heap.size w w1) :
    bodyPost Tryz.prog Tryz.f42 (fun e w' => e = .returned (.agg (odCells x K).toArray) ∧ Below w.heap.size w w') .ret { tmps := tm, defers := [] } w1 := by
  have c0 := hb.cell (i := 0) (v := .int .i64 x.kind) rfl
  have c1 := hb.cell (i := 1) (v := .int .i64 x.a) rfl
  have c2 := hb.cell (i := 2) (v := .int .i64 x.epoch) rfl
  have c3 := hb.cell (i := 3) (v := .int .i64 x.part) rfl
  have c4 := hb.cell (i := 4) (v := .int .i64 x.frm) rfl
  have c5 := hb.cell (i := 5) (v := .int .i64 x.off) rfl
  have c6 := hb.cell (i := 6) (v := .bool x.yes) rfl
  have c7 := hb.cell (i := 7) (v := .bool x.near) rfl
  have c8 := hb.cell (i := 8) (v := K) rfl
  refine bodyPost_ret (v := .agg (odCells x K).toArray) (by simp [results, Tryz.results42, go_sem, hp, c0, c1, c2, c3, c4, c5, c6, c7, c8, odCells]) rfl ⟨rfl, hB⟩

set_option maxHeartbeats 1000000 in
theorem aimed_any {w : World} {base : Nat} {cv : Value} {com : List Int} (x : ODeed) (ka : Option Addr) (kn kc : Nat) (gen next : Int) (hrow : w.ownsRow base 3 1 cv com.length (comCells com)) :
    Calls Tryz.prog 42 #[.agg (odCells x (.slice ka kn kc)).toArray, cv, .int .i64 gen, .int .i64 next] w fun e w' => e = .returned (.agg (odCells (x.aimed com gen next) (.slice ka kn kc)).toArray) ∧ Below w.heap.size w w' := by
  have hend : ∀ (y : ODeed), y = x.aimed com gen next → ∀ (w1 : World) (tm : Array Value) (p : Nat), tm[8]? = some (.pointer (some ⟨p, 0, none⟩)) → Blk w1 p (odCells y (.slice ka kn kc)).toArray 68 → Below w.heap.size w w1 →
      bodyPost Tryz.prog Tryz.f42 (fun e w' => e = .returned (.agg (odCells (x.aimed com gen next) (.slice ka kn kc)).toArray) ∧ Below w.heap.size w w') .ret { tmps := tm, defers := [] } w1 := fun y hy w1 tm p h1 h2 h3 => by subst hy; exact aimed_ret h1 h2 h3
  have HEND := hid hend
  clear hend
  unfold ODeed.aimed at HEND
  obtain ⟨kind, a, epoch, part, frm, off, yes, near, keep⟩ := x
  dsimp only [odCells] at HEND ⊢
  cases near with
  | false =>
    go_enter Tryz.func42, Tryz.ntmps42
    go_wp2_with fail
    refine HEND.out ⟨kind, a, epoch, part, frm, off, yes, false, keep⟩ ?_ _ _ _ rfl (by simpa using Blk.new (w.alloc _) _ _) (bel_alloc (bel_alloc (Below.refl _ _) _) _)
    simp
  | true =>
    by_cases hk4 : kind < 4
    · have hd1 : decide (kind < 4) = true := decide_eq_true hk4
      have hk6 : ¬ kind = 6 := by omega
      have hd3 : decide (kind = 6) = false := decide_eq_false hk6
      by_cases hp : 0 ≤ part
      · obtain ⟨k, rfl⟩ : ∃ k : Nat, part = k := ⟨part.toNat, by omega⟩
        have hd2 : decide (0 ≤ (k : Int)) = true := decide_eq_true hp
        by_cases hpl : k < com.length
        · have hd4 : decide ((k : Int) < (com.length : Int)) = true := by simp; omega
          obtain ⟨z, hz⟩ : ∃ z, com[k]? = some z := ⟨_, List.getElem?_eq_getElem hpl⟩
          rcases Joins.ownsRow_forms hrow with ⟨_, h0⟩ | ⟨g, cap, rfl⟩
          · omega
          · have hg : g < w.heap.size := (hrow.lt g rfl).2
            have hgk : w.cell? ⟨g, k, none⟩ = some (.int .i64 z) := by
              rw [hrow.cellAt k (by omega)]
              unfold comCells
              rw [List.getElem?_map, hz]; rfl
            have hne : g ≠ w.heap.size := by omega
            have hne2 : g ≠ w.heap.size + 1 := by omega
            have hgd : com.getD k 0 = z := by rw [List.getD_eq_getElem?_getD, hz]; rfl
            go_enter Tryz.func42, Tryz.ntmps42
            go_wp2_with fail
            refine HEND.out ⟨kind, a, epoch, k, z, wrap64 (z + low off 15), yes, true, keep⟩ ?_ _ _ _ rfl (by simpa [low] using Blk.new (w.alloc _) _ _) (bel_alloc (bel_alloc (Below.refl _ _) _) _)
            rw [if_neg (by simp), if_pos ⟨hk4, by omega, by omega⟩, Int.toNat_natCast, hgd]
        · have hd4 : decide ((k : Int) < (com.length : Int)) = false := by simp; omega
          obtain ⟨ad, cap, rfl⟩ := row_slice hrow
          go_enter Tryz.func42, Tryz.ntmps42
          go_wp2_with fail
          refine HEND.out ⟨kind, a, epoch, k, frm, off, yes, true, keep⟩ ?_ _ _ _ rfl (by simpa [low] using Blk.new (w.alloc _) _ _) (bel_alloc (bel_alloc (Below.refl _ _) _) _)
          rw [if_neg (by simp), if_neg (by omega), if_neg hk6]
      · have hd2 : decide (0 ≤ part) = false := decide_eq_false hp
        go_enter Tryz.func42, Tryz.ntmps42
        go_wp2_with fail
        refine HEND.out ⟨kind, a, epoch, part, frm, off, yes, true, keep⟩ ?_ _ _ _ rfl (by simpa [low] using Blk.new (w.alloc _) _ _) (bel_alloc (bel_alloc (Below.refl _ _) _) _)
        rw [if_neg (by simp), if_neg (by omega), if_neg hk6]
    · have hd1 : decide (kind < 4) = false := decide_eq_false hk4
      by_cases hk6 : kind = 6
      · subst hk6
        go_enter Tryz.func42, Tryz.ntmps42
        go_wp2_with fail
        refine HEND.out ⟨6, a, epoch, part, wrap64 (gen + low frm 3), wrap64 (next + low off 3), yes, true, keep⟩ ?_ _ _ _ rfl (by simpa [low] using Blk.new (w.alloc _) _ _) (bel_alloc (bel_alloc (Below.refl _ _) _) _)
        simp
      · have hd3 : decide (kind = 6) = false := decide_eq_false hk6
        go_enter Tryz.func42, Tryz.ntmps42
        go_wp2_with fail
        refine HEND.out ⟨kind, a, epoch, part, frm, off, yes, true, keep⟩ ?_ _ _ _ rfl (by simpa [low] using Blk.new (w.alloc _) _ _) (bel_alloc (bel_alloc (Below.refl _ _) _) _)
        rw [if_neg (by simp), if_neg (by omega), if_neg hk6]

theorem fr_setRow {S : Nat → Prop} {w : World} {p : Nat} {c : Array Value} (hp : S p) : Fr S w (w.setRow p c) :=
  ⟨rfl, rfl, rfl, by simp [World.setRow], fun k hk hn => by
    have hne : p ≠ k := fun e => hn (e ▸ hp)
    simp [World.setRow, Array.getElem?_modify, hne]⟩

theorem deed_store {w : World} {p : Nat} {T : TypeId} {x y : ODeed} {K : Value} {ka : Option Addr} {kn kc : Nat} (h : Blk w p (odCells x K).toArray T) :
    (storeCells ⟨p, 0, none⟩ (odCells y (.slice ka kn kc))).run Tryz.prog w = .ok () (w.setRow p (odCells y (.slice ka kn kc)).toArray) := by
  have h9 := Go.run_storeCells_from (P := Tryz.prog) p T (odCells y (.slice ka kn kc)) 0 _ w h rfl (by unfold odCells; simp [Value.oneCell'])
  simpa using h9

def ODeed.fits (x : ODeed) : Prop := (-9223372036854775808 ≤ x.frm ∧ x.frm ≤ 9223372036854775807) ∧ (-9223372036854775808 ≤ x.off ∧ x.off ≤ 9223372036854775807)

theorem wrap64_rng (n : Int) : -9223372036854775808 ≤ wrap64 n ∧ wrap64 n ≤ 9223372036854775807 := by unfold wrap64; omega
theorem aimed_fits {x : ODeed} {com : List Int} (hx : x.fits) (gen next : Int) (hcom : ∀ z ∈ com, 0 ≤ z ∧ z ≤ 1099511627776) : (x.aimed com gen next).fits := by
  unfold ODeed.aimed
  split
  · exact hx
  · split
    · rename_i h
      have hz : com.getD x.part.toNat 0 ∈ com := by
        rw [List.getD_eq_getElem?_getD, List.getElem?_eq_getElem (by omega)]
        exact List.getElem_mem _
      have h1 := hcom _ hz
      refine ⟨?_, wrap64_rng _⟩
      dsimp only
      omega
    · split
      · exact ⟨wrap64_rng _, wrap64_rng _⟩
      · exact hx

def DoesPost (w : World) (o l d : Nat) (S SL SD : Nat → Prop) (r : POff × PLog × PDisk × Int) (e : Ending) (w' : World) : Prop := e = .returned (.tuple #[]) ∧ OffsTo w w' o l d S SL SD r.1 r.2.1 r.2.2.1

set_option maxHeartbeats 4000000 in
theorem does_any {w : World} {o l d : Nat} {S SL SD : Nat → Prop} {O : POff} {A : ALog} {D : PDisk} {N : Int} (x : ODeed) (ka : Option Addr) (kn kc : Nat) (hx : x.fits) (h : Offs w o l d S SL SD O A.toP D) (hok : O.Ok) (hlen : O.com.length ≤ 4) (hi : A.e = 0 → Inv A D ∧ D.WF N) (hcom : ∀ z ∈ O.com, 0 ≤ z ∧ z ≤ 1099511627776) :
    Calls Tryz.prog 28 #[.pointer (some ⟨o, 0, none⟩), .agg (odCells x (.slice ka kn kc)).toArray] w (DoesPost w o l d S SL SD (O.does A.toP D x)) := by
  have HO := hid h
  have HOK := hid hok
  have HI := hid hi
  have hblk := Blk.new w (odCells x (.slice ka kn kc)).toArray 68
  have HB0 := hid (bel_alloc (Below.refl w.heap.size w) (.cells (odCells x (.slice ka kn kc)).toArray 68))
  have HBLK := hid hblk
  clear h hok hi hblk
  dsimp only [odCells] at HB0 HBLK ⊢
  go_enter Tryz.func28, Tryz.ntmps28
  go_wp2_with fail
  refine (genOf_any (HO.out.off.below HB0.out)).mono ?_
  rintro e w1 ⟨rfl, hb1⟩
  have hbk1 := HBLK.out.below' hb1
  have HB1 := hid (bel_next HB0.out hb1)
  have HBK1 := hid hbk1
  have hw1 := hbk1.lt
  have c0 := hbk1.cell (i := 0) (v := .int .i64 x.kind) rfl
  have c1 := hbk1.cell (i := 1) (v := .int .i64 x.a) rfl
  have c2 := hbk1.cell (i := 2) (v := .int .i64 x.epoch) rfl
  have c3 := hbk1.cell (i := 3) (v := .int .i64 x.part) rfl
  have c4 := hbk1.cell (i := 4) (v := .int .i64 x.frm) rfl
  have c5 := hbk1.cell (i := 5) (v := .int .i64 x.off) rfl
  have c6 := hbk1.cell (i := 6) (v := .bool x.yes) rfl
  have c7 := hbk1.cell (i := 7) (v := .bool x.near) rfl
  have c8 := hbk1.cell (i := 8) (v := .slice ka kn kc) rfl
  clear hb1 HB0 HBLK hbk1
  go_wp2_with fail
  refine wp_region_last (fun w' => w'.cell? ⟨w.heap.size, 0, none⟩ = some (.int .i64 x.kind) ∧ w'.cell? ⟨w.heap.size, 1, none⟩ = some (.int .i64 x.a) ∧ w'.cell? ⟨w.heap.size, 2, none⟩ = some (.int .i64 x.epoch) ∧ w'.cell? ⟨w.heap.size, 3, none⟩ = some (.int .i64 x.part) ∧ w'.cell? ⟨w.heap.size, 4, none⟩ = some (.int .i64 x.frm) ∧ w'.cell? ⟨w.heap.size, 5, none⟩ = some (.int .i64 x.off) ∧ w'.cell? ⟨w.heap.size, 6, none⟩ = some (.bool x.yes) ∧ w'.cell? ⟨w.heap.size, 7, none⟩ = some (.bool x.near) ∧ w'.cell? ⟨w.heap.size, 8, none⟩ = some (.slice ka kn kc)) 6 [2, 5] [0, 1, 3, 4, 2, 5] (by kernel_rfl) (by kernel_rfl) (fun _ _ _ _ _ h => h) (by go_keep) (fun hHeld => ?_)
  iterate 4
    refine last_take (v := ?_) rfl (by kernel_rfl) (by kernel_rfl) ?_ ?_
    rotate_left
    focus
      intro w' hSw
      try dsimp only at hSw
      go_simp <;> with_reducible rfl
    simp only [Act.put, List.setIfInBounds_toArray]
  refine last_law rfl (by kernel_rfl) (by kernel_rfl) (fun K hK => ?_)
  go_simp
  refine (committed_any (HO.out.off.below HB1.out.drew) hlen).mono ?_
  rintro e w2 ⟨cv, rfl, hrow2, hb2⟩
  have hbk2 := HBK1.out.drew.below' hb2
  have HB2 := hid (bel_next HB1.out.drew hb2)
  have HBK2 := hid hbk2
  have HROW2 := hid hrow2
  clear hb2 hrow2
  go_simp
  refine hK.out _ _ ⟨hbk2.cell (i := 0) rfl, hbk2.cell (i := 1) rfl, hbk2.cell (i := 2) rfl, hbk2.cell (i := 3) rfl, hbk2.cell (i := 4) rfl, hbk2.cell (i := 5) rfl, hbk2.cell (i := 6) rfl, hbk2.cell (i := 7) rfl, hbk2.cell (i := 8) rfl⟩ (fun hHeld2 => ?_)
  clear hK K hbk2
  try simp only [Act.put, List.setIfInBounds_toArray, List.set_cons_zero, List.set_cons_succ]
  refine last_law rfl (by kernel_rfl) (by kernel_rfl) (fun K hK => ?_)
  go_simp
  refine (aimed_any x ka kn kc O.gen O.next HROW2.out).mono ?_
  rintro e w3 ⟨rfl, hb3⟩
  have hbk3 := HBK2.out.below' hb3
  have HB3 := hid (bel_next HB2.out hb3)
  have HBK3 := hid hbk3
  clear hb3
  go_simp
  refine hK.out _ _ ⟨hbk3.cell (i := 0) rfl, hbk3.cell (i := 1) rfl, hbk3.cell (i := 2) rfl, hbk3.cell (i := 3) rfl, hbk3.cell (i := 4) rfl, hbk3.cell (i := 5) rfl, hbk3.cell (i := 6) rfl, hbk3.cell (i := 7) rfl, hbk3.cell (i := 8) rfl⟩ (fun hHeld3 => ?_)
  clear hK K
  try simp only [Act.put, List.setIfInBounds_toArray, List.set_cons_zero, List.set_cons_succ]
  refine last_step rfl (by kernel_rfl) (fun K hK => ?_)
  have f3 := fun i => hbk3.free i
  have hyf := aimed_fits hx O.gen O.next hcom
  have hdo : O.does A.toP D x = (if ODeed.calls (x.aimed O.com O.gen O.next).kind then O.pendOne A.toP D (x.aimed O.com O.gen O.next).a (x.aimed O.com O.gen O.next).epoch (x.aimed O.com O.gen O.next).part (x.aimed O.com O.gen O.next).frm (x.aimed O.com O.gen O.next).off
    else if (x.aimed O.com O.gen O.next).kind = 4 ∨ (x.aimed O.com O.gen O.next).kind = 5 then O.done A.toP D (x.aimed O.com O.gen O.next).a (x.aimed O.com O.gen O.next).epoch (x.aimed O.com O.gen O.next).yes
    else if (x.aimed O.com O.gen O.next).kind = 6 then O.begin A.toP D (x.aimed O.com O.gen O.next).frm (x.aimed O.com O.gen O.next).off else (O, A.toP, D, 0)) := rfl
  generalize x.aimed O.com O.gen O.next = y at hdo hyf ⊢
  go_simp
  have hst := deed_store (y := y) (ka := ka) (kn := kn) (kc := kc) hbk3
  have hl9 : (odCells y (.slice ka kn kc)).length = 9 := rfl
  rw [if_pos hl9, hst]
  go_simp
  refine hK _ _ ?_
  clear hK K hl9
  try simp only [Act.put, List.setIfInBounds_toArray, List.set_cons_zero, List.set_cons_succ]
  have hfr : Fr (fun k => k = w.heap.size) w3 (w3.setRow w.heap.size (odCells y (.slice ka kn kc)).toArray) := fr_setRow rfl
  have hbk4 : Blk (w3.setRow w.heap.size (odCells y (.slice ka kn kc)).toArray) w.heap.size (odCells y (.slice ka kn kc)).toArray 68 := setRow_heap _ _ _ _ _ _ hbk3
  have HB4 : Hid (Below w.heap.size w (w3.setRow w.heap.size (odCells y (.slice ka kn kc)).toArray)) := hid (HB3.out.trans (hfr.to_below (by have := HB3.out.size; omega) (fun k hk e => by omega)))
  clear hst hbk3 HBK3 HBK2 HBK1 HB3 HB2 HB1 HROW2 c0 c1 c2 c3 c4 c5 c6 c7 c8 hHeld hHeld2 hHeld3 f3 hfr
  generalize w3.setRow w.heap.size (odCells y (.slice ka kn kc)).toArray = w4 at hbk4 HB4 ⊢
  have c0 := hbk4.cell (i := 0) (v := .int .i64 y.kind) rfl
  have c1 := hbk4.cell (i := 1) (v := .int .i64 y.a) rfl
  have c2 := hbk4.cell (i := 2) (v := .int .i64 y.epoch) rfl
  have c3 := hbk4.cell (i := 3) (v := .int .i64 y.part) rfl
  have c4 := hbk4.cell (i := 4) (v := .int .i64 y.frm) rfl
  have c5 := hbk4.cell (i := 5) (v := .int .i64 y.off) rfl
  have c6 := hbk4.cell (i := 6) (v := .bool y.yes) rfl
  clear hbk4
  obtain ⟨kind, a, epoch, part, frm, off, yes, near, keep⟩ := y
  dsimp only [ODeed.fits] at c0 c1 c2 c3 c4 c5 c6 hdo hyf
  by_cases hk : ODeed.calls kind
  · rw [if_pos hk] at hdo
    have HDO := hid hdo
    clear hdo
    rcases hk with rfl | rfl | rfl | rfl
    all_goals
      go_wp2_with fail
      refine (pendOne_any (N := N) a epoch part frm off (HO.out.below HB4.out) HOK.out hlen HI.out).mono ?_
      rintro e w5 ⟨rfl, hto⟩
      have HT := hid (OffsTo.after HB4.out hto)
      clear hto
      go_wp2_with fail
      go_end0
      exact ⟨rfl, by rw [HDO.out]; exact HT.out⟩
  · have hd0 : decide (kind = 0) = false := decide_eq_false (fun e => hk (.inl e))
    have hd1 : decide (kind = 1) = false := decide_eq_false (fun e => hk (.inr (.inl e)))
    have hd2 : decide (kind = 2) = false := decide_eq_false (fun e => hk (.inr (.inr (.inl e))))
    have hd3 : decide (kind = 3) = false := decide_eq_false (fun e => hk (.inr (.inr (.inr e))))
    rw [if_neg hk] at hdo
    by_cases hk4 : kind = 4 ∨ kind = 5
    · rw [if_pos hk4] at hdo
      have HDO := hid hdo
      clear hdo
      clear hk hd0 hd1 hd2 hd3
      rcases hk4 with rfl | rfl
      all_goals
        go_wp2_with fail
        refine (done_any (N := N) a epoch yes (HO.out.below HB4.out) HOK.out hlen HI.out).mono ?_
        rintro e w5 ⟨rfl, hto⟩
        have HT := hid (OffsTo.after HB4.out hto)
        clear hto
        go_wp2_with fail
        go_end0
        exact ⟨rfl, by rw [HDO.out]; exact HT.out⟩
    · have hd4 : decide (kind = 4) = false := decide_eq_false (fun e => hk4 (.inl e))
      have hd5 : decide (kind = 5) = false := decide_eq_false (fun e => hk4 (.inr e))
      rw [if_neg hk4] at hdo
      by_cases hk6 : kind = 6
      · rw [if_pos hk6] at hdo
        subst hk6
        have HDO := hid hdo
        clear hdo
        clear hk hk4 hd0 hd1 hd2 hd3 hd4 hd5
        have HYF := hid hyf
        clear hyf
        go_wp2_with fail
        refine (begin_any (N := N) frm off (HO.out.below HB4.out) HOK.out hlen HI.out HYF.out.1 HYF.out.2).mono ?_
        rintro e w5 ⟨rfl, hto⟩
        have HT := hid (OffsTo.after HB4.out hto)
        clear hto
        go_wp2_with fail
        go_end0
        exact ⟨rfl, by rw [HDO.out]; exact HT.out⟩
      · rw [if_neg hk6] at hdo
        have HDO := hid hdo
        clear hdo
        have hd6 : decide (kind = 6) = false := decide_eq_false hk6
        have n0 : ¬ kind = 0 := fun e => hk (.inl e)
        have n1 : ¬ kind = 1 := fun e => hk (.inr (.inl e))
        have n2 : ¬ kind = 2 := fun e => hk (.inr (.inr (.inl e)))
        have n3 : ¬ kind = 3 := fun e => hk (.inr (.inr (.inr e)))
        have n4 : ¬ kind = 4 := fun e => hk4 (.inl e)
        have n5 : ¬ kind = 5 := fun e => hk4 (.inr e)
        clear hk hk4
        have HT := hid (OffsTo.of_below HO.out HB4.out)
        go_wp2_with fail
        go_end0
        exact ⟨rfl, by rw [HDO.out]; exact HT.out⟩
end Go.Proofs.YtjodkcjlipecdaaGreatDoor

namespace Go.Proofs.YtjodkcjlipecdaaGreatDoor
open Go.RowKit

/-- A deed with the value of its slice. -/
structure OCell where
  d : ODeed
  K : Value
def odsCells (q : List OCell) : List Value := q.flatMap fun x => odCells x.d x.K
def ODeed.few (x : ODeed) : ODeed := { x with keep := x.keep.take 70 }
def fewO (l : List ODeed) : List ODeed := (l.take 60).map ODeed.few

def InODeeds (w : World) (v : Value) (l : List ODeed) : Prop :=
  ∃ q : List OCell, q.map OCell.d = l ∧ InRow w v q.length 9 (odsCells q) ∧ ∀ x ∈ q, InRow w x.K x.d.keep.length 1 (keepCells x.d.keep) ∧ x.d.fits
def OutODeeds (w0 w : World) (base : Nat) (v : Value) (l : List ODeed) : Prop :=
  ∃ q : List OCell, q.map OCell.d = l ∧ w.ownsRow base 68 9 v q.length (odsCells q) ∧ ∀ x ∈ q, InRow w0 x.K x.d.keep.length 1 (keepCells x.d.keep) ∧ x.d.fits

theorem odsCells_app (a b : List OCell) : odsCells (a ++ b) = odsCells a ++ odsCells b := by unfold odsCells; rw [List.flatMap_append]

theorem ods_at : ∀ (q : List OCell) (i : Nat) (x : OCell), q[i]? = some x → ∀ r, r < 9 → (odsCells q)[i * 9 + r]? = (odCells x.d x.K)[r]?
  | [], _, _, h, _, _ => by simp at h
  | y :: q, 0, x, h, r, hr => by
    simp at h
    subst h
    have e : odsCells (y :: q) = odCells y.d y.K ++ odsCells q := rfl
    rw [e, Nat.zero_mul, Nat.zero_add, List.getElem?_append_left (by unfold odCells; simpa using hr)]
  | y :: q, i + 1, x, h, r, hr => by
    have := ods_at q i x (by simpa using h) r hr
    have e : odsCells (y :: q) = odCells y.d y.K ++ odsCells q := rfl
    have e2 : (odCells y.d y.K).length = 9 := rfl
    rw [e, List.getElem?_append_right (by omega), e2, show (i + 1) * 9 + r - 9 = i * 9 + r from by omega]
    exact this

theorem ods_len (q : List OCell) : (odsCells q).length = q.length * 9 := by
  induction q with
  | nil => rfl
  | cons y q ih =>
    have e : odsCells (y :: q) = odCells y.d y.K ++ odsCells q := rfl
    have e2 : (odCells y.d y.K).length = 9 := rfl
    rw [e, List.length_append, ih, e2, List.length_cons]; omega

theorem addr_off (a : Addr) (i j : Nat) (hj : j ≠ 0) : a.add (i + j) = ⟨(a.add i).block, (a.add i).off + j, none⟩ := by
  rw [← Go.Deep.add_add]
  generalize a.add i = b
  unfold Addr.add
  simp [hj]

theorem Tryz.infoODeed : (Tryz.prog.info? 68).map (fun i => (i.zero, i.size, i.bytes)) = some (some (.agg #[.int .i64 0, .int .i64 0, .int .i64 0, .int .i64 0, .int .i64 0, .int .i64 0, .bool false, .bool false, .slice none 0 0]), 9, 80) := by kernel_rfl

/-- A deed that came in, at its address. -/
theorem inDeed {w : World} {ad : Option Addr} {q : List OCell} (hat : ∀ j u, (odsCells q)[j]? = some u → ∃ a, ad = some a ∧ w.cell? (a.add j) = some u) {k : Nat} {x : OCell} (hx : q[k]? = some x) :
    ∃ a, ad = some a ∧ w.cell? (a.add (k * 9)) = some (.int .i64 x.d.kind) ∧ ∀ r u, 0 < r → (odCells x.d x.K)[r]? = some u → w.cell? ⟨(a.add (k * 9)).block, (a.add (k * 9)).off + r, none⟩ = some u := by
  obtain ⟨a, rfl, h0⟩ := hat (k * 9 + 0) (.int .i64 x.d.kind) (by rw [ods_at q k x hx 0 (by decide)]; rfl)
  refine ⟨a, rfl, h0, fun r u hr hu => ?_⟩
  have hr9 : r < 9 := by
    have h9 := (List.getElem?_eq_some_iff.1 hu).1
    exact h9
  obtain ⟨a', e, h1⟩ := hat (k * 9 + r) u (by rw [ods_at q k x hx r hr9]; exact hu)
  injection e with e
  subst e
  rwa [addr_off a (k * 9) r (by omega)] at h1

def FewRel11 (w : World) (q : List OCell) (m : Nat) (c v : Value) (wr : World) : Prop :=
  ∃ (k : Nat) (v1 : Value), k ≤ m ∧ c = .int .i64 k ∧ v1 = v ∧ OutODeeds w wr w.heap.size v1 ((q.take k).map fun x => x.d.few) ∧ Below w.heap.size w wr

set_option maxHeartbeats 1000000 in
theorem few11_any {w : World} {v : Value} {l : List ODeed} (h : InODeeds w v l) : Calls Tryz.prog 27 #[v] w fun e w' => ∃ r, e = .returned r ∧ OutODeeds w w' w.heap.size r (fewO l) ∧ Below w.heap.size w w' := by
  obtain ⟨q, rfl, ⟨hxl, ad, cap, rfl, hcap, hmax, hat⟩, hin⟩ := h
  obtain ⟨m, hm⟩ : ∃ m, m = min q.length 60 := ⟨_, rfl⟩
  have hfew : fewO (q.map OCell.d) = (q.take m).map fun x => x.d.few := by
    unfold fewO
    rw [← List.map_take, List.map_map, hm]
    by_cases h : q.length ≤ 60
    · rw [Nat.min_eq_left h, List.take_of_length_le h, List.take_length]; rfl
    · rw [Nat.min_eq_right (by omega)]; rfl
  rw [hfew]
  have HAT := hid hat
  have HIN := hid hin
  clear hat hin hfew hxl
  have hmq : m ≤ q.length := by omega
  have hm50 : m ≤ 60 := by omega
  obtain ⟨i1, hi1, hy0, hy1, hy2⟩ := info_parts Tryz.infoODeed
  go_enter Tryz.func27, Tryz.ntmps27
  go_upto_if 8 with fail
  go_cut [0] (fun v0 wx => v0 = .slice ad m cap ∧ wx = w)
  case first =>
    by_cases h50 : q.length ≤ 60
    · obtain rfl : m = q.length := by omega
      have hb2 : decide ((60 : Int) < (q.length : Int)) = false := decide_eq_false (by omega)
      clear hm hm50 hmq
      go_wp2_with fail
      go_meet
      exact ⟨rfl, rfl⟩
    · obtain rfl : m = 60 := by omega
      have hb2 : decide ((60 : Int) < (q.length : Int)) = true := decide_eq_true (by omega)
      clear hm hm50
      go_wp2_with fail
      go_meet
      exact ⟨rfl, rfl⟩
  case rest =>
    obtain ⟨rfl, rfl⟩ := hcut
    rename World => w0
    clear hm hcap
    go_wp2_with fail
    go_loopw [4, 3] (fun c v wr => FewRel11 w0 q m c v wr) (fun c _ _ => m - (intOf c).toNat)
    case atStart => exact ⟨0, _, by omega, rfl, rfl, ⟨[], rfl, World.ownsRow_nil _ _ _ _, by simp⟩, Below.refl _ _⟩
    case round =>
      obtain ⟨k, v, hk, rfl, rfl, ⟨o, hod, horow, hoall⟩, hb⟩ := hrel
      by_cases hlt : k < m
      · obtain ⟨x, hx⟩ : ∃ x, q[k]? = some x := ⟨_, List.getElem?_eq_getElem (by omega)⟩
        obtain ⟨a, rfl, c0, cr⟩ := inDeed HAT.out hx
        have HX := hid hx
        have HO := hid (And.intro hod (And.intro horow hoall))
        have HB := hid hb
        obtain ⟨⟨_, ka, kc, hK, hkc, hkm, hkat⟩, hfit⟩ := HIN.out x (List.mem_of_getElem? hx)
        clear hx hod horow hoall hb
        obtain ⟨xd, xK⟩ := x
        simp only at hK cr c0 hkat hfit hkc
        subst hK
        have d0 := (HB.out.cell (p := a.add (k * 9)) (World.block_lt_of_cell? w0 _ c0)).trans c0
        have d1 := (HB.out.cell (p := ⟨(a.add (k * 9)).block, (a.add (k * 9)).off + 1, none⟩) (World.block_lt_of_cell? w0 _ (cr 1 _ (by decide) rfl))).trans (cr 1 _ (by decide) rfl)
        have d2 := (HB.out.cell (p := ⟨(a.add (k * 9)).block, (a.add (k * 9)).off + 2, none⟩) (World.block_lt_of_cell? w0 _ (cr 2 _ (by decide) rfl))).trans (cr 2 _ (by decide) rfl)
        have d3 := (HB.out.cell (p := ⟨(a.add (k * 9)).block, (a.add (k * 9)).off + 3, none⟩) (World.block_lt_of_cell? w0 _ (cr 3 _ (by decide) rfl))).trans (cr 3 _ (by decide) rfl)
        have d4 := (HB.out.cell (p := ⟨(a.add (k * 9)).block, (a.add (k * 9)).off + 4, none⟩) (World.block_lt_of_cell? w0 _ (cr 4 _ (by decide) rfl))).trans (cr 4 _ (by decide) rfl)
        have d5 := (HB.out.cell (p := ⟨(a.add (k * 9)).block, (a.add (k * 9)).off + 5, none⟩) (World.block_lt_of_cell? w0 _ (cr 5 _ (by decide) rfl))).trans (cr 5 _ (by decide) rfl)
        have d6 := (HB.out.cell (p := ⟨(a.add (k * 9)).block, (a.add (k * 9)).off + 6, none⟩) (World.block_lt_of_cell? w0 _ (cr 6 _ (by decide) rfl))).trans (cr 6 _ (by decide) rfl)
        have d7 := (HB.out.cell (p := ⟨(a.add (k * 9)).block, (a.add (k * 9)).off + 7, none⟩) (World.block_lt_of_cell? w0 _ (cr 7 _ (by decide) rfl))).trans (cr 7 _ (by decide) rfl)
        have d8 := (HB.out.cell (p := ⟨(a.add (k * 9)).block, (a.add (k * 9)).off + 8, none⟩) (World.block_lt_of_cell? w0 _ (cr 8 _ (by decide) rfl))).trans (cr 8 _ (by decide) rfl)
        obtain ⟨mk, hmk⟩ : ∃ mk, mk = min xd.keep.length 70 := ⟨_, rfl⟩
        have hmkl : mk ≤ xd.keep.length := by omega
        have HMK := hid hmk
        have HKAT := hid hkat
        have HFIT := hid hfit
        clear c0 cr hkat hfit hmk
        go_upto_if 24 with fail
        go_cut [27] (fun _ wx => wx = wr.alloc (.cells #[.int .i64 xd.kind, .int .i64 xd.a, .int .i64 xd.epoch, .int .i64 xd.part, .int .i64 xd.frm, .int .i64 xd.off, .bool xd.yes, .bool xd.near, .slice ka mk kc] 68))
        case first =>
          by_cases h70 : xd.keep.length ≤ 70
          · obtain rfl : mk = xd.keep.length := by have := HMK.out; omega
            have hb2 : decide ((70 : Int) < (xd.keep.length : Int)) = false := decide_eq_false (by omega)
            go_wp2_with fail
            go_meet
            rfl
          · obtain rfl : mk = 70 := by have := HMK.out; omega
            have hb2 : decide ((70 : Int) < (xd.keep.length : Int)) = true := decide_eq_true (by omega)
            go_wp2_with fail
            go_meet
            rfl
        case rest =>
          subst hcut
          clear d0 d1 d2 d3 d4 d5 d6 d7 d8
          have hol : o.length = k := by
            have h := congrArg List.length HO.out.1
            rw [List.length_map, List.length_map, List.length_take, Nat.min_eq_left (by omega)] at h
            exact h
          go_wp2_with (first
            | (at_builtin; refine wpList_append_own _ rfl _ _ 61 rfl w0.heap.size 68 i1 (.agg #[.int .i64 0, .int .i64 0, .int .i64 0, .int .i64 0, .int .i64 0, .int .i64 0, .bool false, .bool false, .slice none 0 0]) 9 80 Tryz.underlying61 hi1 hy0 hy1 hy2 rfl (by decide) _ _ _ rfl ((HO.out.2.1.alloc _).alloc _) ⟨wr.heap.size + 1, 0, none⟩ 1 1 [.int .i64 xd.kind, .int .i64 xd.a, .int .i64 xd.epoch, .int .i64 xd.part, .int .i64 xd.frm, .int .i64 xd.off, .bool xd.yes, .bool xd.near, .slice ka mk kc] rfl rfl ?c1 ?c2 ?c3 ?c4 ?c5 ?_))
          case c2 => simp [Value.oneCell']
          case c3 => unfold maxLen; omega
          case c4 => omega
          case c5 => have := HB.out.size; simp; omega
          intro v' w1 hown1 hgrow _
          have hbw : Below w0.heap.size w0 w1 := bel_append (bel_alloc (bel_alloc HB.out _) _) ((HO.out.2.1.alloc _).alloc _) (by have := HB.out.size; simp; omega) hgrow
          have hkeep : InRow w0 (.slice ka mk kc) (xd.keep.take 70).length 1 (keepCells (xd.keep.take 70)) := by
            have hl : (xd.keep.take 70).length = mk := by rw [List.length_take, HMK.out, Nat.min_comm]
            refine ⟨by simp [keepCells], ka, kc, by rw [hl], by omega, hkm, fun j u hu => HKAT.out j u ?_⟩
            unfold keepCells at hu ⊢
            rw [List.map_take, List.getElem?_take] at hu
            split at hu
            · exact hu
            · cases hu
          have hfin : OutODeeds w0 w1 w0.heap.size v' ((q.take (k + 1)).map fun x => x.d.few) := by
            refine ⟨o ++ [⟨xd.few, .slice ka mk kc⟩], ?_, ?_, ?_⟩
            · rw [List.map_append, HO.out.1, List.take_add_one, HX.out, List.map_append]; rfl
            · rw [odsCells_app, List.length_append, hol]; exact hown1
            · intro x hx
              rcases List.mem_append.1 hx with hx | hx
              · exact HO.out.2.2 x hx
              · obtain rfl : x = ⟨xd.few, .slice ka mk kc⟩ := by simpa using hx
                exact ⟨hkeep, HFIT.out⟩
          have HFIN := hid hfin
          have HBW := hid hbw
          clear hfin hbw hown1 hgrow hkeep
          go_wp2_with fail
          go_roundw
          case rel => exact ⟨k + 1, v', by omega, by go_num, rfl, HFIN.out, HBW.out⟩
          case measure => simp [intOf]; omega
      · obtain rfl : k = m := by omega
        have HEND : Hid (OutODeeds w0 wr w0.heap.size v ((q.take k).map fun x => x.d.few) ∧ Below w0.heap.size w0 wr) := hid ⟨⟨o, hod, horow, hoall⟩, hb⟩
        clear hod horow hoall hb
        go_wp2_with fail
        go_ret
        exact ⟨_, rfl, HEND.out.1, HEND.out.2⟩
end Go.Proofs.YtjodkcjlipecdaaGreatDoor
