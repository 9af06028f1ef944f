/-
  LogFetches: the walk. No conditions but deeds that read.
-/
import Derived.Test.YtnibpknhpjcamaaGreatDoorGJM
import Derived.Test.YtnibpknhpjcamaaGreatDoorGHM
import Derived.Test.YtnibpknhpjcamaaGreatDoorGFM
import Derived.Deep.RegionHeld3
set_option maxRecDepth 100000
namespace Go.Proofs.YtnibpknhpjcamaaGreatDoor
open Go.RowKit

/-- What made makes is a log that nothing has befallen. -/
structure MadeIs (r : PLog × PDisk × List Ent) (A : ALog) (N : Int) : Prop where
  log : r.1 = A.toP
  good : Good A r.2.1 50
  name : A.name = [108, 111, 103]
  all : A.all = r.2.2
  disk : r.2.1.WF N
  wf : A.toP.WF
  len : A.all.length ≤ 400
  bd : A.toP.Bd 50

theorem madeL_is (size : Int) (l : List PDeed) : ∃ A, MadeIs (madeL size l) A (madeRoom size) := by
  have hk := few_len l
  obtain ⟨A, h1, h2, h3, h4⟩ := madeK_good size l (fewL l).length
  obtain ⟨h5, h6⟩ := madeK_wf size l (fewL l).length
  have h7 := madeK_len size l (fewL l).length
  rw [madeK_all] at h1 h2 h4 h5 h6 h7
  have hb : A.toP.Bd 50 := by rw [← h1]; exact h5.up hk
  exact ⟨A, h1, ⟨h2.inv, h2.e, h2.off, h2.fuse, h2.own, h2.ents, h2.first, by have := h2.next; omega⟩, h3, h4, h6, hb.wf (by omega), by rw [h4]; omega, hb⟩

theorem one_most (most : Int) : 1 ≤ 1 + (most.tmod 32 + 32).tmod 32 ∧ 1 + (most.tmod 32 + 32).tmod 32 ≤ 32 ∧ -32 < most.tmod 32 ∧ most.tmod 32 < 32 := by
  have h1 : -32 < most.tmod 32 := by
    by_cases h : 0 ≤ most
    · have := Int.tmod_nonneg (a := most) 32 h; omega
    · have h5 := Int.tmod_lt_of_pos (-most) (b := 32) (by decide)
      rw [Int.neg_tmod] at h5
      omega
  have h0 := Int.tmod_lt_of_pos most (b := 32) (by decide)
  have h2 := Int.tmod_nonneg (a := most.tmod 32 + 32) 32 (by omega)
  have h3 := Int.tmod_lt_of_pos (most.tmod 32 + 32) (b := 32) (by decide)
  omega

/-- From an offset within an entry it is the first. -/
theorem fetch_head {b : Int} {l : List Ent} (h : Chain b l) {off : Int} (h1 : b ≤ off) (h2 : off < endOf b l) :
    ∃ y r, l.filter (fun y => decide (off < y.base + y.n)) = y :: r ∧ y.base ≤ off ∧ off < y.base + y.n ∧ y ∈ l := by
  induction l generalizing b with
  | nil => simp [endOf] at h2; omega
  | cons x l ih =>
    by_cases hx : off < x.base + x.n
    · exact ⟨x, _, by rw [List.filter_cons, if_pos (by simpa using hx)], by rw [h.1]; exact h1, hx, by simp⟩
    · rw [endOf_cons b x l h.1] at h2
      obtain ⟨y, r, h3, h4, h5, h6⟩ := ih h.2.2 (by rw [← h.1]; omega) h2
      exact ⟨y, r, by rw [List.filter_cons, if_neg (by simpa using hx)]; exact h3, h4, h5, by simp [h6]⟩

theorem filter_behind {b : Int} {l : List Ent} (h : Chain b l) {off : Int} (h2 : endOf b l ≤ off) : l.filter (fun y => decide (off < y.base + y.n)) = [] := by
  rw [List.filter_eq_nil_iff]
  intro y hy
  have := (h.mem_le hy).2.2
  simp; omega

theorem own_slice {w : World} {base : Nat} {e : TypeId} {size : Nat} {v : Value} {n : Nat} {xs : List Value} (h : w.ownsRow base e size v n xs) (hn : 0 < n) : ∃ g cap, v = .slice (some ⟨g, 0, none⟩) n cap := by
  rcases Joins.ownsRow_forms h with ⟨_, hz⟩ | ⟨g, cap, rfl⟩
  · omega
  · exact ⟨g, cap, rfl⟩

theorem own_none {w : World} {base : Nat} {e : TypeId} {size : Nat} {v : Value} {xs : List Value} (h : w.ownsRow base e size v 0 xs) : ∃ ad cap, v = .slice ad 0 cap := row_slice h

set_option maxHeartbeats 2000000 in
theorem fetches_any {w : World} {v : Value} {l : List PDeed} (size most off : Int) (h : InDeeds w v l) : Calls Tryz.prog 3 #[.int .i64 size, v, .int .i64 most, .int .i64 off] w (AwakePost w) := by
  obtain ⟨A, hA⟩ := madeL_is size l
  obtain ⟨m1, m2, m3, m4⟩ := one_most most
  have hw1 : wrap64 (most.tmod 32 + 32) = most.tmod 32 + 32 := IntWalk.wrap64_in _ (by omega)
  have hw2 : wrap64 (1 + (most.tmod 32 + 32).tmod 32) = 1 + (most.tmod 32 + 32).tmod 32 := IntWalk.wrap64_in _ (by omega)
  have HA := hid hA
  have HI := hid h
  clear hA h m3 m4
  go_enter Tryz.func3, Tryz.ntmps3
  go_wp2_with fail
  refine (made_any size HI.out).mono ?_
  rintro e w1 ⟨ll, d, av, S, SD, rfl, hlog, hd, hrow, _, _, hb⟩
  generalize madeL size l = r at HA hlog hd hrow
  obtain ⟨r1, D, acc⟩ := r
  obtain ⟨e1, hg, hnm, e2, hdw, hwf, hlen, _⟩ := HA.out
  dsimp only at e1 e2 hg hdw hlog hd hrow
  subst e1 e2
  clear HA HI
  unfold ptr
  have HL := hid hlog
  have HD := hid hd
  have HROW := hid hrow
  have HB := hid hb
  have HG := hid hg
  have HC := hid hg.inv.all_chain
  clear hlog hd hrow hb hg hnm
  go_wp2_with fail
  clear hw1 hw2
  generalize 1 + (most.tmod 32 + 32).tmod 32 = mo at m1 m2 ⊢
  refine (every_any mo A.all HL.out HD.out hdw hwf (fun o => HG.out.inv.fetch_pos hdw HG.out.off o) ⟨m1, m2⟩ HC.out.1 HC.out.2 (by omega) (every_spec HG.out.inv hdw HG.out.off HG.out.e ⟨m1, m2⟩).1).mono ?_
  rintro e w2 ⟨v2, rfl, hrow2, hb2⟩
  have HROW2 := hid hrow2
  have HB2 := hid (bel_next HB.out hb2)
  have HL2 := hid (HL.out.below hb2)
  have HD2 := hid (HD.out.below hb2)
  have HR2 := hid (own_bel HROW.out hb2)
  clear hrow2 hb2 HL HD HROW HB
  go_wp2_with fail
  refine (same_yes (Reads.of_own HROW2.out) (Reads.of_own HR2.out) (by omega)).mono ?_
  rintro e w3 ⟨rfl, n, rfl⟩
  have HB3 := hid (HB2.out.trans (bel_drewN w.heap.size w2 n))
  have HL3 := hid (HL2.out.below (bel_drewN w2.heap.size w2 n))
  have HD3 := hid (HD2.out.below (bel_drewN w2.heap.size w2 n))
  clear HB2 HL2 HD2 HROW2 HR2
  generalize w2.drewN n = w3 at HB3 HL3 HD3 ⊢
  go_wp2_with fail
  refine (fetch_any off mo HL3.out HD3.out hdw hwf (HG.out.inv.fetch_pos hdw HG.out.off off)).mono ?_
  rintro e w4 ⟨v4, rfl, hrow4, hb4⟩
  have HROW4 := hid hrow4
  have HB4 := hid (bel_next HB3.out hb4)
  have HL4 := hid (HL3.out.below hb4)
  clear HB3 HL3 HD3 hrow4 hb4
  have hfin : ∀ (e : Ending) (w' : World), AwakePost w4 e w' → ∃ _b : Unit, e = .returned (.bool true) ∧ Below w.heap.size w w' := fun e w' h => ⟨(), h.1, bel_next HB4.out h.2⟩
  have HFIN := hid hfin
  clear hfin
  by_cases c0 : off < A.toP.first
  · have hf : A.toP.fetch D off mo = ([], 6) := by
      unfold PLog.fetch
      rw [if_neg (by omega), if_neg (show ¬ A.toP.e ≠ 0 from fun h => h HG.out.e), if_pos (.inl c0)]
    rw [hf] at HROW4 ⊢
    obtain ⟨ad, cap, rfl⟩ := own_none HROW4.out
    have hd0 : decide (off < A.toP.first) = true := by simpa using c0
    clear hf c0
    dsimp only
    go_wp2_with fail
    refine (first_any HL4.out).mono ?_
    rintro e w' ⟨rfl, rfl⟩
    go_wp2_with fail
    refine (awake_any _).mono ?_
    rintro e w5 hp
    obtain ⟨_, rfl, hb5⟩ := HFIN.out _ _ hp
    have HB5 := hid hb5
    clear hp hb5
    go_wp2_with fail
    go_ret
    exact ⟨rfl, HB5.out⟩
  have hd0 : decide (off < A.toP.first) = false := by simpa using c0
  by_cases c1 : A.toP.next < off
  · have hf : A.toP.fetch D off mo = ([], 6) := by
      unfold PLog.fetch
      rw [if_neg (by omega), if_neg (show ¬ A.toP.e ≠ 0 from fun h => h HG.out.e), if_pos (.inr c1)]
    rw [hf] at HROW4 ⊢
    obtain ⟨ad, cap, rfl⟩ := own_none HROW4.out
    have hd1 : decide (A.toP.next < off) = true := by simpa using c1
    clear hf c0 c1
    dsimp only
    go_wp2_with fail
    refine (first_any HL4.out).mono ?_
    rintro e w' ⟨rfl, rfl⟩
    go_wp2_with fail
    refine (next_any HL4.out).mono ?_
    rintro e w' ⟨rfl, rfl⟩
    go_wp2_with fail
    refine (awake_any _).mono ?_
    rintro e w5 hp
    obtain ⟨_, rfl, hb5⟩ := HFIN.out _ _ hp
    have HB5 := hid hb5
    clear hp hb5
    go_wp2_with fail
    go_ret
    exact ⟨rfl, HB5.out⟩
  have hd1 : decide (A.toP.next < off) = false := by simpa using c1
  have hf := HG.out.inv.fetch hdw HG.out.off HG.out.e ⟨m1, m2⟩ (show A.first ≤ off from Int.not_lt.1 c0) (show off ≤ A.next from Int.not_lt.1 c1)
  by_cases c2 : off = A.toP.next
  · rw [filter_behind HC.out.1 (show endOf A.first A.all ≤ off by rw [HC.out.2, c2]; exact Int.le_refl _), List.take_nil] at hf
    rw [hf] at HROW4 ⊢
    obtain ⟨ad, cap, rfl⟩ := own_none HROW4.out
    have hd2 : (off == A.toP.next) = true := by simpa using c2
    clear hf c0 c1 c2
    dsimp only
    go_wp2_with fail
    refine (first_any HL4.out).mono ?_
    rintro e w' ⟨rfl, rfl⟩
    go_wp2_with fail
    refine (next_any HL4.out).mono ?_
    rintro e w' ⟨rfl, rfl⟩
    go_wp2_with fail
    refine (next_any HL4.out).mono ?_
    rintro e w' ⟨rfl, rfl⟩
    go_wp2_with fail
    refine (awake_any _).mono ?_
    rintro e w5 hp
    obtain ⟨_, rfl, hb5⟩ := HFIN.out _ _ hp
    have HB5 := hid hb5
    clear hp hb5
    go_wp2_with fail
    go_ret
    exact ⟨rfl, HB5.out⟩
  · obtain ⟨y, q, hfl, y1, y2, ymem⟩ := fetch_head HC.out.1 (show A.first ≤ off from Int.not_lt.1 c0) (show off < endOf A.first A.all by rw [HC.out.2]; have h9 : A.toP.next = A.next := rfl; omega)
    rw [hfl] at hf
    obtain ⟨n1, hn1⟩ : ∃ n1, mo.toNat = n1 + 1 := ⟨mo.toNat - 1, by omega⟩
    rw [hn1, List.take_succ_cons] at hf
    rw [hf] at HROW4 ⊢
    dsimp only at HROW4 ⊢
    have hyok := HC.out.1.ok y ymem
    obtain ⟨o1, o2, o3, o4, _⟩ := hyok
    have hlq : (q.take n1).length ≤ 400 := by
      have h9 := congrArg List.length hfl
      have h10 := List.length_filter_le (fun y : Ent => decide (off < y.base + y.n)) A.all
      simp at h9
      rw [List.length_take]; omega
    obtain ⟨g, cap, rfl⟩ := own_slice HROW4.out (by simp)
    have p0 : w4.cell? ⟨g, 0, none⟩ = some (.int .i64 y.base) := by rw [HROW4.out.cellAt 0 (by simp)]; rfl
    have p1 : w4.cell? ⟨g, 1, none⟩ = some (.int .i64 y.n) := by rw [HROW4.out.cellAt 1 (by simp; omega)]; rfl
    have hd2 : (off == A.toP.next) = false := by simpa using c2
    have hd3 : decide (y.base ≤ off) = true := by simpa using y1
    have hd4 : decide (off < y.base + y.n) = true := by simpa using y2
    generalize hmm : (y :: q.take n1).length = m at HROW4 ⊢
    have hm1 : 1 ≤ m := by rw [← hmm]; simp
    have hm0 : 0 < m := hm1
    have hd5 : decide (0 < m) = true := by simpa using hm0
    clear hf hfl c0 c1 c2 hn1 hmm ymem
    go_wp2_with fail
    refine (first_any HL4.out).mono ?_
    rintro e w' ⟨rfl, rfl⟩
    go_wp2_with fail
    refine (next_any HL4.out).mono ?_
    rintro e w' ⟨rfl, rfl⟩
    go_wp2_with fail
    refine (next_any HL4.out).mono ?_
    rintro e w' ⟨rfl, rfl⟩
    go_wp2_with fail
    have hgl : g < w4.heap.size := World.block_lt_of_cell? w4 _ p0
    have k5 : IntKind.i64.wrap (y.base + y.n) = y.base + y.n := IntWalk.i64_in _ (by omega)
    go_region_held3 (fun w' => w'.cell? ⟨g, 0, none⟩ = some (.int .i64 y.base) ∧ w'.cell? ⟨g, 1, none⟩ = some (.int .i64 y.n)) (go_keep)
      ((go_at_call 17; refine (awake_any _).mono ?_; rintro e w5 ⟨rfl, hb5⟩; have HB5 := hid hb5; have e0 : w5.cell? ⟨g, 0, none⟩ = some (.int .i64 y.base) := (hb5.cell (p := ⟨g, 0, none⟩) (by simpa using hgl)).trans (by go_simp); have e1 : w5.cell? ⟨g, 1, none⟩ = some (.int .i64 y.n) := (hb5.cell (p := ⟨g, 1, none⟩) (by simpa using hgl)).trans (by go_simp); clear hb5))
    go_wp2_with fail
    go_ret
    exact ⟨rfl, bel_next (HB4.out.trans (bel_drewN _ _ 1)) HB5.out⟩
end Go.Proofs.YtnibpknhpjcamaaGreatDoor
