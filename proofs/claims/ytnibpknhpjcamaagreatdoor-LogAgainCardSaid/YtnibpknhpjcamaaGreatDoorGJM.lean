/-
  The same entries are told to be the same: the walk. Conditions: lists that read.
  every: the walk. Conditions: entries that follow each other, fetched as they lie.
-/
import Derived.Test.YtnibpknhpjcamaaGreatDoorGHM
import Derived.BigQuiet
import Derived.Deep.QuietTactic
set_option maxRecDepth 100000
namespace Go.Proofs.YtnibpknhpjcamaaGreatDoor
open Go.RowKit

theorem Reads.form {w : World} {v : Value} {n size : Nat} {xs : List Value} (h : Reads w v n size xs) : ∃ ad cap, v = .slice ad n cap := by
  obtain ⟨_, ad, cap, e, _⟩ := h
  exact ⟨ad, cap, e⟩

def DrewPost (w : World) (v : Value) (e : Ending) (w' : World) : Prop := e = .returned v ∧ ∃ n, w' = w.drewN n

set_option maxHeartbeats 1000000 in
theorem same_yes {w : World} {va vb : Value} {l : List Ent} (ha : Reads w va l.length 3 (entCells l)) (hb : Reads w vb l.length 3 (entCells l)) (hlen : l.length ≤ 1000000) :
    Calls Tryz.prog 13 #[va, vb] w (DrewPost w (.bool true)) := by
  obtain ⟨_, ada, capa, rfl, hca⟩ := ha
  obtain ⟨_, adb, capb, rfl, hcb⟩ := hb
  have HA := hid hca
  have HB := hid hcb
  clear hca hcb
  have hne : ((l.length : Int) != (l.length : Int)) = false := by simp
  go_enter Tryz.func13, Tryz.ntmps13
  go_wp2_with fail
  go_loopw [5] (fun c wr => ∃ (k n : Nat), k ≤ l.length ∧ c = .int .i64 k ∧ wr = w.drewN n) (fun c _ => l.length - (intOf c).toNat)
  case atStart => exact ⟨0, 0, by omega, rfl, rfl⟩
  case round =>
    obtain ⟨k, n, hk, rfl, rfl⟩ := hrel
    by_cases hlt : k < l.length
    · obtain ⟨x, hx⟩ : ∃ x, l[k]? = some x := ⟨_, List.getElem?_eq_getElem hlt⟩
      obtain ⟨e0, e1, e2⟩ := entCells_at l k x hx
      obtain ⟨ga, rfl, a0⟩ := HA.out _ _ e0
      obtain ⟨gb, rfl, b0⟩ := HB.out _ _ e0
      have a1 : w.cell? ⟨ga, k * 3 + 1, none⟩ = some (.int .i64 x.n) := by
        obtain ⟨g, hg, h⟩ := HA.out _ _ e1
        injection hg with hg; injection hg with hg; rw [hg]; exact h
      have a2 : w.cell? ⟨ga, k * 3 + 2, none⟩ = some (.string (bs x.text)) := by
        obtain ⟨g, hg, h⟩ := HA.out _ _ e2
        injection hg with hg; injection hg with hg; rw [hg]; exact h
      have b1 : w.cell? ⟨gb, k * 3 + 1, none⟩ = some (.int .i64 x.n) := by
        obtain ⟨g, hg, h⟩ := HB.out _ _ e1
        injection hg with hg; injection hg with hg; rw [hg]; exact h
      have b2 : w.cell? ⟨gb, k * 3 + 2, none⟩ = some (.string (bs x.text)) := by
        obtain ⟨g, hg, h⟩ := HB.out _ _ e2
        injection hg with hg; injection hg with hg; rw [hg]; exact h
      clear e0 e1 e2 hx
      have hk0 : (0 : Int) ≤ (k : Int) := Int.natCast_nonneg _
      have hk1 : (k : Int) < (l.length : Int) := by omega
      go_wp2_with fail
      go_quiet (fail)
      go_wp2_with fail
      go_roundw
      case rel => exact ⟨k + 1, n + nq, by omega, by go_num, rfl⟩
      case measure => simp [intOf]; omega
    · obtain rfl : k = l.length := by omega
      go_wp2_with fail
      go_ret
      exact ⟨rfl, n, rfl⟩
end Go.Proofs.YtnibpknhpjcamaaGreatDoor

namespace Go.Proofs.YtnibpknhpjcamaaGreatDoor
open Go.RowKit

theorem chain_take {b : Int} {l : List Ent} (h : Chain b l) (k : Nat) : b ≤ endOf b (l.take k) ∧ endOf b (l.take k) ≤ endOf b l ∧ (k < l.length → endOf b (l.take k) < endOf b l) ∧
    ∀ j, k < j → k < l.length → endOf b (l.take k) < endOf b (l.take j) := by
  have hs := List.take_append_drop k l
  have hc2 := h
  rw [← hs] at hc2
  have h1 := (Chain.app.1 hc2).1.le
  have h2 := (endOf_prefix hc2).1
  rw [hs] at h2
  refine ⟨h1, h2, fun hk => ?_, fun j hj hk => ?_⟩
  · have h3 := (Chain.app.1 hc2).2.lt (by intro h9; have := congrArg List.length h9; simp at this; omega)
    rw [← endOf_app, hs] at h3
    exact h3
  · have e : l.take j = l.take k ++ (l.drop k).take (j - k) := by
      have : (l.take j) = (l.take k ++ l.drop k).take j := by rw [hs]
      rw [this, List.take_append, List.take_of_length_le (by rw [List.length_take]; omega)]
      congr 1
      rw [List.length_take, Nat.min_eq_left (by omega)]
    have hc3 : Chain b (l.take j) := by
      have hs' := List.take_append_drop j l
      have hc4 := h
      rw [← hs'] at hc4
      exact (Chain.app.1 hc4).1
    rw [e] at hc3
    have h3 := (Chain.app.1 hc3).2.lt (by intro h9; have := congrArg List.length h9; simp at this; omega)
    rw [← endOf_app, ← e] at h3
    exact h3

theorem one_ents (l : List Ent) : ∀ u ∈ entCells l, u.oneCell' = true := by
  intro u hu
  unfold entCells at hu
  obtain ⟨m, _, hm⟩ := List.mem_flatMap.1 hu
  simp only [List.mem_cons, List.mem_nil_iff, or_false] at hm
  rcases hm with rfl | rfl | rfl <;> rfl

theorem entCells_len (l : List Ent) : (entCells l).length = l.length * 3 := by
  induction l with
  | nil => rfl
  | cons e l ih =>
    have : entCells (e :: l) = [.int .i64 e.base, .int .i64 e.n, .string (bs e.text)] ++ entCells l := rfl
    rw [this, List.length_append, ih]; simp; omega

theorem entCells_app2 (a b : List Ent) : entCells (a ++ b) = entCells a ++ entCells b := by unfold entCells; rw [List.flatMap_append]

/-- All entries are told. -/
def EveryPost (w : World) (all : List Ent) (e : Ending) (w' : World) : Prop :=
  ∃ v, e = .returned (.tuple #[v, .bool true]) ∧ w'.ownsRow w.heap.size 37 3 v all.length (entCells all) ∧ Below w.heap.size w w'

set_option maxHeartbeats 2000000 in
theorem every_any {w : World} {l d : Nat} {S SD : Nat → Prop} {L : PLog} {D : PDisk} {N : Int} (most : Int) (all : List Ent) (h : LogAt w l d S L) (hd : DiskAt w d SD D) (hw : D.WF N) (hwl : L.WF)
    (hpos : ∀ off, ∀ x ∈ L.segs, (D.read (segName L.name x.base)).2 = 0 → 0 ≤ fromL off x.marks ∧ fromL off x.marks ≤ (D.read (segName L.name x.base)).1.length) (hm : 1 ≤ most ∧ most ≤ 32)
    (hc : Chain L.first all) (hn : endOf L.first all = L.next) (hlen : all.length ≤ 1000000)
    (hf : ∀ k, k < all.length → L.fetch D (endOf L.first (all.take k)) most = ((all.drop k).take most.toNat, 0)) :
    Calls Tryz.prog 12 #[ptr l, .int .i64 most] w (EveryPost w all) := by
  obtain ⟨i0, hi, hz0, hz1, hz2⟩ := info_parts Tryz.infoEntry
  obtain ⟨hm1, hm2⟩ := hm
  have hnx := hwl.next
  have HH := hid h
  have HD := hid hd
  have HC := hid hc
  have HN := hid hn
  have HF := hid hf
  have HPOS := hid hpos
  clear h hd hc hn hf hpos
  unfold ptr
  go_enter Tryz.func12, Tryz.ntmps12
  go_wp2_with fail
  refine (first_any HH.out).mono ?_
  rintro e w' ⟨rfl, rfl⟩
  go_wp2_with fail
  go_loopw [6, 7] (fun ov at' wr => ∃ (k : Nat) (v1 : Value), k ≤ all.length ∧ v1 = ov ∧ at' = .int .i64 (endOf L.first (all.take k)) ∧ wr.ownsRow w.heap.size 37 3 v1 (all.take k).length (entCells (all.take k)) ∧ Below w.heap.size w wr)
    (fun _ at' _ => (L.next - intOf at').toNat)
  case atStart => exact ⟨0, _, by omega, rfl, rfl, World.ownsRow_nil _ _ _ _, Below.refl _ _⟩
  case round =>
    obtain ⟨k, v1, hk, rfl, rfl, hrow, hb⟩ := hrel
    obtain ⟨g1, g2, g3, g4⟩ := chain_take HC.out k
    rw [HN.out] at g2 g3
    have HG4 := hid g4
    have HROW := hid hrow
    have HB := hid hb
    have hsz := hb.size
    have HL := hid (HH.out.below hb)
    have HDD := hid (HD.out.below hb)
    clear hrow hb g4
    by_cases hlt : k < all.length
    · have g5 := g3 hlt
      have hq := HF.out k hlt
      clear g3
      have hl1 : 1 ≤ ((all.drop k).take most.toNat).length := by rw [List.length_take, List.length_drop]; omega
      have hl2 : ((all.drop k).take most.toNat).length ≤ most := by rw [List.length_take]; omega
      have hl3 : all.take (k + ((all.drop k).take most.toNat).length) = all.take k ++ (all.drop k).take most.toNat := by
        rw [List.take_add, List.length_take, List.length_drop]
        congr 1
        by_cases h9 : most.toNat ≤ all.length - k
        · rw [Nat.min_eq_left h9]
        · rw [Nat.min_eq_right (by omega), List.take_of_length_le (by simp), List.take_of_length_le (by simp; omega)]
      have hl4 : k + ((all.drop k).take most.toNat).length ≤ all.length := by rw [List.length_take, List.length_drop]; omega
      have hl5 : (all.take k).length ≤ 1000000 := by rw [List.length_take]; omega
      have HL3 := hid hl3
      clear hl3
      generalize (all.drop k).take most.toNat = r at hq hl1 hl2 HL3 hl4
      obtain ⟨r0, y, rfl⟩ : ∃ r0 y, r = r0 ++ [y] := by
        rcases List.eq_nil_or_concat r with rfl | ⟨r0, y, h9⟩
        · simp at hl1
        · exact ⟨r0, y, by rw [h9, List.concat_eq_append]⟩
      have hlast : endOf L.first (all.take (k + (r0 ++ [y]).length)) = y.base + y.n := by
        rw [HL3.out, ← List.append_assoc, endOf_app]; rfl
      have hlast2 := HG4.out (k + (r0 ++ [y]).length) (by omega) hlt
      have hb2 := (chain_take HC.out (k + (r0 ++ [y]).length)).2.1
      rw [HN.out] at hb2
      rw [hlast] at hlast2 hb2
      have hyb : 0 ≤ y.base ∧ 1 ≤ y.n := by
        have hmem : y ∈ all := by
          have h9 : y ∈ all.take (k + (r0 ++ [y]).length) := by rw [HL3.out]; simp
          exact List.mem_of_mem_take h9
        have h10 := HC.out.ok y hmem
        exact ⟨h10.1, h10.2.2.1⟩
      obtain ⟨hyb1, hyb2⟩ := hyb
      have HLAST := hid hlast
      have HQ := hid hq
      clear hlast hq
      generalize endOf L.first (all.take k) = at0 at g1 g2 g5 hlast2 HQ ⊢
      go_wp2_with fail
      refine (next_any HL.out).mono ?_
      rintro e w' ⟨rfl, rfl⟩
      have hdl : decide (at0 < L.next) = true := by simpa using g5
      go_wp2_with fail
      refine (fetch_any at0 most HL.out HDD.out hw hwl (HPOS.out at0)).mono ?_
      rintro e w4 ⟨v, rfl, hrow4, hb4⟩
      rw [HQ.out] at hrow4
      rw [HQ.out]
      dsimp only at hrow4 ⊢
      obtain ⟨g, cap, rfl⟩ : ∃ g cap, v = .slice (some ⟨g, 0, none⟩) (r0 ++ [y]).length cap := by
        rcases Joins.ownsRow_forms hrow4 with ⟨_, hz⟩ | ⟨g, cap, rfl⟩
        · omega
        · exact ⟨g, cap, rfl⟩
      have hg := hrow4.lt g rfl
      obtain ⟨hg1, hg2⟩ := hg
      have HROW4 := hid hrow4
      have HO := hid (own_bel HROW.out hb4)
      have HBB := hid (bel_next HB.out hb4)
      have hsz4 := hb4.size
      have hlen2 : (r0 ++ [y]).length = r0.length + 1 := by simp
      have hsrc : ∀ j u, (entCells (r0 ++ [y]))[j]? = some u → w4.cell? ((⟨g, 0, none⟩ : Addr).add j) = some u := by
        intro j u hju
        have e : (⟨g, 0, none⟩ : Addr).add j = ⟨g, j, none⟩ := by unfold Addr.add; split <;> simp_all
        rw [e]
        have hjl := (List.getElem?_eq_some_iff.1 hju).1
        rw [entCells_len] at hjl
        rw [HROW4.out.cellAt j hjl]
        exact hju
      have HSRC := hid hsrc
      have hown : v1.ownBlock ≠ some g := fun e => by
        have := (HROW.out.lt g e).2
        omega
      have hown := hid hown
      clear hrow4 hb4 hsrc
      have hk2 : (k + (r0 ++ [y]).length) ≤ all.length := hl4
      have hat : (r0 ++ [y])[(r0 ++ [y]).length - 1]? = some y := by rw [hlen2]; simp
      obtain ⟨q0, q1, _⟩ := entCells_at _ _ y hat
      have HQ0 := hid q0
      have HQ1 := hid q1
      clear q0 q1 hat
      have HLEN := hid hlen2
      clear hlen2
      generalize hmm : (r0 ++ [y]).length = m at hl1 hl2 hl4 HLAST HL3 HROW4 HQ0 HQ1 hk2 HLEN ⊢
      have HMM := hid hmm
      clear hmm
      have hz1' : ((m : Int) == 0) = false := by simp; omega
      have hz2' : decide (most < (m : Int)) = false := by simp; omega
      go_wp2_with (first
          | (at_builtin; refine wpList_append_own _ rfl _ _ 25 rfl w.heap.size 37 i0 (.agg #[.int .i64 0, .int .i64 0, .string ⟨#[]⟩]) 3 32 Tryz.underlying25 hi hz0 hz1 hz2 rfl (by decide) _ _ _ rfl HO.out ⟨g, 0, none⟩ m cap (entCells (r0 ++ [y])) rfl (by rw [entCells_len, HMM.out]) HSRC.out (one_ents _) ?c3 ?c4 ?c5 ?_))
      case c3 => unfold maxLen; omega
      case c4 => omega
      case c5 => omega
      intro v' w5 hown1 hgrow _
      have hbw : Below w.heap.size w w5 := bel_append HBB.out HO.out (by omega) hgrow
      have HO1 := hid hown1
      have HBW := hid hbw
      have p0 : w5.cell? ⟨g, (m - 1) * 3, none⟩ = some (.int .i64 y.base) := by
        rw [hgrow.cell_far _ (by simp; omega) (Ne.symm hown.out), HROW4.out.cellAt _ (by omega)]
        exact HQ0.out
      have p1 : w5.cell? ⟨g, (m - 1) * 3 + 1, none⟩ = some (.int .i64 y.n) := by
        rw [hgrow.cell_far _ (by simp; omega) (Ne.symm hown.out), HROW4.out.cellAt _ (by omega)]
        exact HQ1.out
      clear hown1 hbw hgrow
      go_wp2_with fail
      have k1 : (0 : Int) ≤ (m : Int) - 1 := by omega
      have k2 : (m : Int) - 1 < (m : Int) := by omega
      have k3 : ((m : Int) - 1).toNat = m - 1 := by omega
      have k4 : IntKind.i64.wrap ((m : Int) - 1) = (m : Int) - 1 := IntWalk.i64_in _ (by omega)
      have k5 : IntKind.i64.wrap (y.base + y.n) = y.base + y.n := IntWalk.i64_in _ (by omega)
      go_quiet (fail)
      clear k1 k2 k3 k4 k5
      go_wp2_with fail
      go_roundw
      case rel =>
        refine ⟨k + m, v', hk2, rfl, by rw [HLAST.out], ?_, HBW.out.trans (bel_drewN _ _ _)⟩
        have h9 : (all.take (k + m)).length = k + m := by rw [List.length_take]; omega
        rw [HL3.out] at h9 ⊢
        rw [h9, entCells_app2]
        exact own_bel HO1.out (bel_drewN _ _ _)
      case measure => simp [intOf]; omega
    · obtain rfl : k = all.length := by omega
      rw [List.take_length] at g1 g2 HROW ⊢
      rw [HN.out] at g1 ⊢
      clear g2 g3
      have hdl : decide (L.next < L.next) = false := by simp
      go_wp2_with fail
      refine (next_any HL.out).mono ?_
      rintro e w' ⟨rfl, rfl⟩
      go_wp2_with fail
      go_ret2
      exact ⟨_, rfl, HROW.out, HB.out⟩
end Go.Proofs.YtnibpknhpjcamaaGreatDoor
