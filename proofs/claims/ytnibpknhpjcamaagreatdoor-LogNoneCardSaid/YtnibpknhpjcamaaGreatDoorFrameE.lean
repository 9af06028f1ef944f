/-
  frame.Each and frame.Row (chapter 3): the entries of consecutive frames. Conditions: texts that fit.
-/
import Derived.Test.YtnibpknhpjcamaaGreatDoorFrameT
import Derived.Test.YtnibpknhpjcamaaGreatDoorRange
import Derived.OwnWalkIn
import Derived.TacticsInMore
import Derived.LoopNIn
import Derived.LoopIn
set_option maxRecDepth 100000
namespace Go.Proofs.YtnibpknhpjcamaaGreatDoor
open Go.RowKit
attribute [local go_sem] Oper.semAt_some

theorem takeEnt_len (l : List UInt8) (e : Ent) (r : List UInt8) (h : takeEnt l = some (e, r)) : r.length < l.length := by
  unfold takeEnt at h
  split at h
  · cases h
  · rename_i z rest h1
    have := takeTextL_len _ _ _ _ h1
    split at h
    · cases h
    · split at h
      · cases h
      · split at h
        · cases h
        · simp only [Option.some.injEq, Prod.mk.injEq] at h
          obtain ⟨_, rfl⟩ := h
          simp; omega

/-- The entries of the frames that bytes begin with, each with its frame's length. -/
def rowL (l : List UInt8) : List (Nat × Ent) :=
  match _h : takeEnt l with
  | none => []
  | some (e, r) => (l.length - r.length, e) :: rowL r
termination_by l.length
decreasing_by exact takeEnt_len l e r _h

theorem rowL_none {l : List UInt8} (h : takeEnt l = none) : rowL l = [] := by
  rw [rowL]; split
  · rfl
  · rename_i e r h2; rw [h] at h2; cases h2

theorem rowL_some {l : List UInt8} {e : Ent} {r : List UInt8} (h : takeEnt l = some (e, r)) : rowL l = (l.length - r.length, e) :: rowL r := by
  rw [rowL]; split
  · rename_i h2; rw [h] at h2; cases h2
  · rename_i e2 r2 h2; rw [h] at h2; cases h2; rfl

theorem take_ent_none (s : ByteArray) (w : World) (hs : s.size ≤ 140737488354900) (h : takeEnt (tl s) = none) :
    Calls Tryz.prog 24 #[.string s] w fun e w' => e = .returned (.tuple #[.agg #[.int .i64 0, .int .i64 0, .string ⟨#[]⟩], .string ⟨#[]⟩, .int .i64 2]) ∧ Below w.heap.size w w' :=
  (takeEnt_any s w hs).mono fun e w' ⟨he, hw⟩ => by rw [h] at he; exact ⟨he, hw⟩

theorem take_ent_some (s : ByteArray) (x : Ent) (r : List UInt8) (w : World) (hs : s.size ≤ 140737488354900) (h : takeEnt (tl s) = some (x, r)) :
    Calls Tryz.prog 24 #[.string s] w fun e w' => e = .returned (.tuple #[.agg #[.int .i64 x.base, .int .i64 x.n, .string (bs x.text)], .string (bs r), .int .i64 0]) ∧ Below w.heap.size w w' :=
  (takeEnt_any s w hs).mono fun e w' ⟨he, hw⟩ => by rw [h] at he; exact ⟨he, hw⟩

/-- What a round of a range over Each is handed. -/
def eachEnc (x : Nat × Ent) : Array Value := #[.int .i64 x.1, .agg #[.int .i64 x.2.base, .int .i64 x.2.n, .string (bs x.2.text)]]

def boxLen (w : World) (b : Nat) : Nat := match w.cell? ⟨b, 0, none⟩ with | some (.string s) => s.size | _ => 0
theorem boxLen_of {w : World} {b : Nat} {s : ByteArray} {T : TypeId} (h : Blk w b #[.string s] T) : boxLen w b = s.size := by
  unfold boxLen; rw [h.cell (i := 0) rfl]; rfl

set_option maxHeartbeats 1000000 in
theorem each_any (s : ByteArray) (w : World) :
    Calls Tryz.prog 48 #[.string s] w fun e w' => e = .returned (.func (.func 83) #[] #[.pointer (some ⟨w.heap.size, 0, none⟩)]) ∧ w' = w.alloc (.cells #[.string s] 9) := by
  go_enter Tryz.func48, Tryz.ntmps48
  go_wp2_with fail
  go_ret
  exact ⟨rfl, rfl⟩

set_option maxHeartbeats 2000000 in
theorem each_it (n : Nat) (bx : Nat) (l0 : List UInt8) (w : World) (hl : l0.length ≤ 140737488354900) (hbx : Blk w bx #[.string (bs l0)] 9) :
    It Fence.wide n Tryz.prog 83 #[.pointer (some ⟨bx, 0, none⟩)] (fun k => k = bx) eachEnc (rowL l0) w := by
  intro l J Jx W hW hJ hJx hY h0
  have hbW := hbx.below' hW
  refine callsIn_of_wp Tryz.func83 rfl trivial ?_ rfl
  simp only [Tryz.ntmps83, List.size_toArray, List.length_cons, List.length_nil, Nat.reduceAdd, Nat.reduceSub, Array.replicate_succ, Array.replicate_zero, List.push_toArray, List.append_toArray, List.nil_append, List.cons_append]
  gi_wp2
  gi_loopw [3] (fun _ wr => ∃ pre rest, rowL l0 = pre ++ rowL rest ∧ rest.length ≤ l0.length ∧ Blk wr bx #[.string (bs rest)] 9 ∧ J pre wr) (fun _ wr => boxLen wr bx)
  case atStart =>
    exact ⟨[], l0, rfl, Nat.le_refl _, hbW, h0⟩
  case round =>
    obtain ⟨pre, rest, hrow, hlen, hB, hJp⟩ := hrel
    have HROW := hid hrow
    have HJP := hid hJp
    have HBX := hid hB
    have hcell := hB.cell (i := 0) (v := .string (bs rest)) rfl
    have hblt := hB.lt
    clear hrow hJp hB
    cases ht : takeEnt rest with
    | none =>
      have HT := hid ht
      clear ht
      gi_wp2
      refine wide_call ((take_ent_none _ _ (by rw [bs_size]; omega) (by rw [tl_bs]; exact HT.out)).mono ?_)
      rintro e w1 ⟨rfl, hb1⟩
      gi_wp2
      refine ⟨fun _ h => (by cases h), ?_⟩
      gi_wp2
      refine bodyPost_ret (results_none rfl _ _ _) rfl ?_
      refine ⟨⟨_, rfl⟩, .inl ?_⟩
      have e1 := HROW.out
      rw [rowL_none HT.out, List.append_nil] at e1
      rw [e1]
      exact hJ _ _ _ HJP.out (((Fr.refl _ _).below hb1).alloc _)
    | some xr =>
      obtain ⟨x, r⟩ := xr
      have HT := hid ht
      have hrl := takeEnt_len _ _ _ ht
      have hbr : (bs r).size = r.length := rfl
      have hbrest : (bs rest).size = rest.length := rfl
      clear ht
      gi_wp2
      refine wide_call ((take_ent_some _ _ _ _ (by rw [bs_size]; omega) (by rw [tl_bs]; exact HT.out)).mono ?_)
      rintro e w1 ⟨rfl, hb1⟩
      have hcell1 : w1.cell? ⟨bx, 0, none⟩ = some (.string (bs rest)) := (hb1.cell (p := ⟨bx, 0, none⟩) hblt).trans hcell
      have hblt1 : bx < w1.heap.size := Nat.lt_of_lt_of_le hblt hb1.size
      have hpre : (pre ++ [(rest.length - r.length, x)]) <+: rowL l0 := by
        rw [HROW.out, rowL_some HT.out]
        exact ⟨rowL r, by simp⟩
      have hJ2 : J pre (w1.alloc (.cells #[.int .i64 x.base, .int .i64 x.n, .string (bs x.text)] 37)) := hJ _ _ _ HJP.out (((Fr.refl _ _).below hb1).alloc _)
      obtain ⟨fn, tmps, assign, body, hy, hR⟩ := hY pre (rest.length - r.length, x) _ hJ2 hpre
      have HPRE := hid hpre
      clear hpre hJ2
      simp only [eachEnc] at hy
      have hi : ((rest.length : Int) - (r.length : Int)) = ((rest.length - r.length : Nat) : Int) := by omega
      gi_wp2
      refine ⟨fun h => (by cases h), hR.mono ?_⟩
      rintro e W2 (⟨rfl, hJ2, hk⟩ | ⟨rfl, hJx2, hk⟩)
      · have hB2 : Blk W2 bx #[.string (bs rest)] 9 := by
          unfold Blk
          rw [hk.block bx rfl (by simp; omega)]
          exact (HBX.out.below' hb1).alloc _
        have hcell2 := hB2.cell (i := 0) (v := .string (bs rest)) rfl
        have hf2 := hB2.free 0
        have HB2 := hid hB2
        clear hB2 hy hR
        gi_wp2
        go_roundw
        case rel =>
          refine ⟨pre ++ [(rest.length - r.length, x)], r, ?_, by omega, HB2.out.set 0 _, ?_⟩
          · rw [HROW.out, rowL_some HT.out, List.append_assoc]; rfl
          · exact hJ _ _ _ hJ2 (Fr.setCell (S := fun k => k = bx) (p := ⟨bx, 0, none⟩) (Fr.refl _ _) (.inl rfl) _)
        case measure =>
          rw [boxLen_of (HB2.out.set 0 _), boxLen_of HBX.out, bs_size]
          exact hrl
      · clear hy hR
        gi_wp2
        refine bodyPost_ret (results_none rfl _ _ _) rfl ?_
        exact ⟨⟨_, rfl⟩, .inr ⟨_, HPRE.out, hJx2⟩⟩

theorem rowL_len (l : List UInt8) : ∀ n, l.length ≤ n → (rowL l).length ≤ l.length := by
  intro n
  induction n generalizing l with
  | zero =>
    intro h
    cases ht : takeEnt l with
    | none => rw [rowL_none ht]; simp
    | some x => have := takeEnt_len l x.1 x.2 ht; omega
  | succ n ih =>
    intro h
    cases ht : takeEnt l with
    | none => rw [rowL_none ht]; simp
    | some x =>
      have hl := takeEnt_len l x.1 x.2 ht
      have := ih x.2 (by omega)
      rw [rowL_some (e := x.1) (r := x.2) ht]; simp; omega

/-- The cells of entries. -/
def entCells (l : List Ent) : List Value := l.flatMap fun e => [.int .i64 e.base, .int .i64 e.n, .string (bs e.text)]
def rowBytes (l : List (Nat × Ent)) : Nat := (l.map (·.1)).sum

theorem rowBytes_le (l : List UInt8) : ∀ n, l.length ≤ n → rowBytes (rowL l) ≤ l.length := by
  intro n
  induction n generalizing l with
  | zero =>
    intro h
    cases ht : takeEnt l with
    | none => rw [rowL_none ht]; simp [rowBytes]
    | some x => have := takeEnt_len l x.1 x.2 ht; omega
  | succ n ih =>
    intro h
    cases ht : takeEnt l with
    | none => rw [rowL_none ht]; simp [rowBytes]
    | some x =>
      have hl := takeEnt_len l x.1 x.2 ht
      have := ih x.2 (by omega)
      rw [rowL_some (e := x.1) (r := x.2) ht]; simp [rowBytes] at this ⊢; omega

theorem rowBytes_prefix {a b : List (Nat × Ent)} (h : a <+: b) : rowBytes a ≤ rowBytes b ∧ a.length ≤ b.length := by
  obtain ⟨c, rfl⟩ := h
  simp [rowBytes]

theorem Tryz.infoEntry : (Tryz.prog.info? 37).map (fun i => (i.zero, i.size, i.bytes)) = some (some (.agg #[.int .i64 0, .int .i64 0, .string ⟨#[]⟩]), 3, 32) := by kernel_rfl

/-- Between two rounds of Row. -/
def RowI (w : World) (pre : List (Nat × Ent)) (W : World) : Prop :=
  ∃ v, Blk W w.heap.size #[v] 25 ∧ Blk W (w.heap.size + 1) #[.int .i64 (rowBytes pre)] 3 ∧
    W.ownsRow (w.heap.size + 5) 37 3 v pre.length (entCells (pre.map (·.2))) ∧ Below w.heap.size w W

set_option maxHeartbeats 2000000 in
theorem row_any (s : ByteArray) (w : World) (hs : s.size ≤ 1099511627776) :
    Calls Tryz.prog 21 #[.string s] w fun e w' => ∃ v, e = .returned (.tuple #[v, .int .i64 (rowBytes (rowL (tl s)))]) ∧
      w'.ownsRow w.heap.size 37 3 v (rowL (tl s)).length (entCells ((rowL (tl s)).map (·.2))) ∧ Below w.heap.size w w' := by
  obtain ⟨i0, hi, hz0, hz1, hz2⟩ := info_parts Tryz.infoEntry
  refine (callsIn_wide (n := 9)).1 ?_
  refine callsIn_of_wp_marks Tryz.func21 rfl trivial ?_ rfl
  simp only [Tryz.ntmps21, List.size_toArray, List.length_cons, List.length_nil, Nat.reduceAdd, Nat.reduceSub, Array.replicate_succ, Array.replicate_zero, List.push_toArray, List.append_toArray, List.nil_append, List.cons_append]
  gi_wp2
  refine wide_call' ((each_any _ _).mono ?_)
  rintro e w1 ⟨rfl, rfl⟩
  gi_wp2
  obtain ⟨W0, hW0⟩ : ∃ W0, (((w.alloc (.cells #[.slice none 0 0] 25)).alloc (.cells #[.int .i64 0] 3)).alloc (.cells #[.string s] 9)) = W0 := ⟨_, rfl⟩
  have hsz : W0.heap.size = w.heap.size + 3 := by rw [← hW0]; simp
  have hb0 : Blk W0 w.heap.size #[.slice none 0 0] 25 := by rw [← hW0]; exact ((Blk.new _ _ _).alloc _).alloc _
  have hb1 : Blk W0 (w.heap.size + 1) #[.int .i64 0] 3 := by rw [← hW0]; exact (Blk.new (w.alloc (.cells #[.slice none 0 0] 25)) #[.int .i64 0] 3).alloc _ |> fun h => by simpa using h
  have hb2 : Blk W0 (w.heap.size + 2) #[.string (bs (tl s))] 9 := by rw [← hW0, bs_tl]; exact (Blk.new ((w.alloc (.cells #[.slice none 0 0] 25)).alloc (.cells #[.int .i64 0] 3)) #[.string s] 9) |> fun h => by simpa using h
  have hbel : Below w.heap.size w W0 := by rw [← hW0]; exact bel_alloc (bel_alloc (bel_alloc (Below.refl _ _) _) _) _
  rw [hW0]
  clear hW0
  refine wpIn_range (F := Fence.wide) rfl (by decide) (gf := 83) (lb := #[.pointer (some ⟨w.heap.size + 2, 0, none⟩)]) rfl trivial (enters_of Tryz.func83 (by kernel_rfl) rfl)
    (each_it _ (w.heap.size + 2) (tl s) W0 (by rw [tl_len]; omega) hb2) (by rintro k rfl; omega) (fun _ => rfl)
    (RowI w) (fun _ _ _ => False) ?hI (fun _ _ _ _ h _ => h) ?h0 ?hround ?hdone (fun _ _ _ _ h _ => h.elim)
  case hI =>
    rintro pre A B ⟨v, h0, h1, hown, hbl⟩ hf
    refine ⟨v, h0.fr hf (by omega), h1.fr hf (by omega), own_fr hown hf (fun k hk => by omega), hbl.trans (hf.to_below hbl.size (fun k hk => by omega))⟩
  case h0 =>
    intro W hW hs2
    exact ⟨_, hb0.below' hW, hb1.below' hW, World.ownsRow_nil _ _ _ _, bel_next hbel hW⟩
  case hround =>
    rintro pre ⟨m, x⟩ W hpre ⟨v, h0, h1, hown, hbl⟩ hs2
    have hp1 := rowBytes_prefix hpre
    have hp2 := rowBytes_le (tl s) _ (Nat.le_refl _)
    have hp3 := rowL_len (tl s) _ (Nat.le_refl _)
    rw [tl_len] at hp2 hp3
    have hp4 : rowBytes (pre ++ [(m, x)]) = rowBytes pre + m := by simp [rowBytes]
    have hp5 : (pre ++ [(m, x)]).length = pre.length + 1 := by simp
    have hm1 : rowBytes pre + m ≤ 1099511627776 := by omega
    have hm2 : pre.length + 1 ≤ 1099511627776 := by omega
    unfold eachEnc
    gi_wp2
    refine ⟨Kept.of_fr ((Fr.refl (fun _ => False) W).alloc _) (fun _ _ h => h), ?_⟩
    intro W2 hf2
    have he : Blk W2 W.heap.size #[.int .i64 x.base, .int .i64 x.n, .string (bs x.text)] 37 := (Blk.new _ _ _).fr hf2 (by omega)
    have g0 := (h0.alloc (.cells #[.int .i64 x.base, .int .i64 x.n, .string (bs x.text)] 37)).fr hf2 (by omega)
    have g1 := (h1.alloc (.cells #[.int .i64 x.base, .int .i64 x.n, .string (bs x.text)] 37)).fr hf2 (by omega)
    have gown := own_fr (hown.alloc (.cells #[.int .i64 x.base, .int .i64 x.n, .string (bs x.text)] 37)) hf2 (fun k hk => by omega)
    have gbl : Below w.heap.size w W2 := (bel_alloc hbl _).trans (hf2.to_below (bel_alloc hbl _).size (fun k hk => by omega))
    have hsz2 := hf2.size
    simp at hsz2
    obtain ⟨c0, c1, c2, _, _, _⟩ := he.c3
    have d0 := g0.cell (i := 0) (v := v) rfl
    have d1 := g1.cell (i := 0) (v := .int .i64 (rowBytes pre)) rfl
    have k0 := g0.free 0
    have k1 := g1.free 0
    clear hf2 h0 h1 hown hbl hp1 hp2 hp3 hp4 hp5 he
    gi_wp2_with (gi_at_builtin; refine wpListIn_append_own _ rfl _ _ 25 rfl (w.heap.size + 5) 37 i0 (.agg #[.int .i64 0, .int .i64 0, .string ⟨#[]⟩]) 3 32 Tryz.underlying25 hi hz0 hz1 hz2 rfl (by decide) _ _ _ rfl (gown.alloc _) ⟨W2.heap.size, 0, none⟩ 1 1 [.int .i64 x.base, .int .i64 x.n, .string (bs x.text)] rfl rfl (cells_new _ _ _) ?c2 ?c3 ?c4 ?c5 ?_)
    case c2 => simp [Value.oneCell']
    case c3 => unfold maxLen; omega
    case c4 => omega
    case c5 => simp; omega
    intro v' W3 hown' hgrow _
    obtain ⟨g', cap', rfl⟩ := ownsRow_succ hown'
    have t0 := (g0.alloc (.cells #[.int .i64 x.base, .int .i64 x.n, .string (bs x.text)] 37)).grown hgrow (own_block_ne gown (by omega))
    have t1 := (g1.alloc (.cells #[.int .i64 x.base, .int .i64 x.n, .string (bs x.text)] 37)).grown hgrow (own_block_ne gown (by omega))
    have tbl : Below w.heap.size w W3 := (bel_alloc gbl _).grown hgrow (bel_alloc gbl _).size (fun k hk => by have := (gown.lt k hk).1; omega)
    have tk : Kept (fun k => k = w.heap.size + 2 ∨ k = W0.heap.size ∨ k = W0.heap.size + 1) W2 W3 :=
      (Kept.of_fr ((Fr.refl (fun _ => False) W2).alloc _) (fun _ _ h => h)).trans ⟨hgrow.size, fun k hk hl => hgrow.block k hl (fun e => by have := (gown.lt k e.symm).1; omega)⟩
    have e0 := t0.cell (i := 0) (v := v) rfl
    have e1 := t1.cell (i := 0) (v := .int .i64 (rowBytes pre)) rfl
    have f0 := t0.free 0
    have f1 := t1.free 0
    clear g0 g1 d0 d1 k0 k1 c0 c1 c2
    gi_wp2
    have hfin : Fr (fun k => k = w.heap.size ∨ k = w.heap.size + 1) W3 ((W3.setCell ⟨w.heap.size, 0, none⟩ (.slice (some ⟨g', 0, none⟩) (pre.length + 1) cap')).setCell ⟨w.heap.size + 1, 0, none⟩ (.int .i64 ((rowBytes pre : Int) + (m : Int)))) :=
      Fr.setCell (p := ⟨w.heap.size + 1, 0, none⟩) (Fr.setCell (p := ⟨w.heap.size, 0, none⟩) (Fr.refl _ W3) (.inl (.inl rfl)) _) (.inl (.inr rfl)) _
    refine ⟨tk.trans (Kept.of_fr hfin (fun k hk => by omega)), _, (t0.set 0 _).other (by omega) 0 _, ?_, ?_, (tbl.setCell (Nat.le_refl _) _).setCell (Nat.le_succ _) _⟩
    · have h := (t1.other (b' := w.heap.size) (by omega) 0 (.slice (some ⟨g', 0, none⟩) (pre.length + 1) cap')).set 0 (.int .i64 ((rowBytes pre : Int) + (m : Int)))
      have e : ((rowBytes (pre ++ [(m, x)]) : Nat) : Int) = (rowBytes pre : Int) + (m : Int) := by simp [rowBytes]
      rw [e]
      exact h
    · have h := own_fr hown' hfin (fun k hk => by omega)
      have e1 : (pre ++ [(m, x)]).length = pre.length + 1 := by simp
      have e2 : entCells ((pre ++ [(m, x)]).map (·.2)) = entCells (pre.map (·.2)) ++ [.int .i64 x.base, .int .i64 x.n, .string (bs x.text)] := by simp [entCells]
      rw [e1, e2]
      exact h
  case hdone =>
    rintro W ⟨v, h0, h1, hown, hbl⟩ hD
    have c0 := h0.cell (i := 0) (v := v) rfl
    have c1 := h1.cell (i := 0) (v := .int .i64 (rowBytes (rowL (tl s)))) rfl
    gi_wp2
    gi_region
    all_goals gi_wp2
    refine ⟨by simp, .inl ⟨_, _, rfl, run_takeDeferred (b := W0.heap.size) (w := W.drew) hD, ?_⟩⟩
    refine ⟨_, results_tmp2 rfl _ _ _, ?_⟩
    have hput : Fr (fun k => k = W0.heap.size) W.drew (W.drew.putObj W0.heap.size (.deferred none)) := fr_putObj _ _ _ rfl
    refine ⟨v, rfl, own_base (own_fr (hown.drew) hput (fun k hk => by omega)) (by omega), hbl.drew.trans (hput.to_below hbl.drew.size (fun k hk => by omega))⟩

end Go.Proofs.YtnibpknhpjcamaaGreatDoor
