/-
  LogFetches: the walk. No conditions but deeds that read.
  What a call on a log leaves of other memory. No conditions.
  What an append to a log comes to whose power may go. No conditions.
  May: the walk. No conditions.
-/
import Derived.Test.YtnibpknhpjcamaaGreatDoorGJM
import Derived.Test.YtnibpknhpjcamaaGreatDoorGHM
import Derived.Test.YtnibpknhpjcamaaGreatDoorGFM
import Derived.Deep.RegionHeld3
import Derived.Test.YtnibpknhpjcamaaGreatDoorGMM
set_option maxRecDepth 100000
namespace Go.Proofs.YtnibpknhpjcamaaGreatDoor
open Go.RowKit

/-- What made makes is a log that nothing has befallen. -/
structure MadeIs (r : PLog × PDisk × List Ent) (A : ALog) (N : Int) : Prop where
  log : r.1 = A.toP
  good : Good A r.2.1 50
  name : A.name = [108, 111, 103]
  all : A.all = r.2.2
  disk : r.2.1.WF N
  wf : A.toP.WF
  len : A.all.length ≤ 400
  bd : A.toP.Bd 50

theorem madeL_is (size : Int) (l : List PDeed) : ∃ A, MadeIs (madeL size l) A (madeRoom size) := by
  have hk := few_len l
  obtain ⟨A, h1, h2, h3, h4⟩ := madeK_good size l (fewL l).length
  obtain ⟨h5, h6⟩ := madeK_wf size l (fewL l).length
  have h7 := madeK_len size l (fewL l).length
  rw [madeK_all] at h1 h2 h4 h5 h6 h7
  have hb : A.toP.Bd 50 := by rw [← h1]; exact h5.up hk
  exact ⟨A, h1, ⟨h2.inv, h2.e, h2.off, h2.fuse, h2.own, h2.ents, h2.first, by have := h2.next; omega⟩, h3, h4, h6, hb.wf (by omega), by rw [h4]; omega, hb⟩

theorem one_most (most : Int) : 1 ≤ 1 + (most.tmod 32 + 32).tmod 32 ∧ 1 + (most.tmod 32 + 32).tmod 32 ≤ 32 ∧ -32 < most.tmod 32 ∧ most.tmod 32 < 32 := by
  have h1 : -32 < most.tmod 32 := by
    by_cases h : 0 ≤ most
    · have := Int.tmod_nonneg (a := most) 32 h; omega
    · have h5 := Int.tmod_lt_of_pos (-most) (b := 32) (by decide)
      rw [Int.neg_tmod] at h5
      omega
  have h0 := Int.tmod_lt_of_pos most (b := 32) (by decide)
  have h2 := Int.tmod_nonneg (a := most.tmod 32 + 32) 32 (by omega)
  have h3 := Int.tmod_lt_of_pos (most.tmod 32 + 32) (b := 32) (by decide)
  omega

/-- From an offset within an entry it is the first. -/
theorem fetch_head {b : Int} {l : List Ent} (h : Chain b l) {off : Int} (h1 : b ≤ off) (h2 : off < endOf b l) :
    ∃ y r, l.filter (fun y => decide (off < y.base + y.n)) = y :: r ∧ y.base ≤ off ∧ off < y.base + y.n ∧ y ∈ l := by
  induction l generalizing b with
  | nil => simp [endOf] at h2; omega
  | cons x l ih =>
    by_cases hx : off < x.base + x.n
    · exact ⟨x, _, by rw [List.filter_cons, if_pos (by simpa using hx)], by rw [h.1]; exact h1, hx, by simp⟩
    · rw [endOf_cons b x l h.1] at h2
      obtain ⟨y, r, h3, h4, h5, h6⟩ := ih h.2.2 (by rw [← h.1]; omega) h2
      exact ⟨y, r, by rw [List.filter_cons, if_neg (by simpa using hx)]; exact h3, h4, h5, by simp [h6]⟩

theorem filter_behind {b : Int} {l : List Ent} (h : Chain b l) {off : Int} (h2 : endOf b l ≤ off) : l.filter (fun y => decide (off < y.base + y.n)) = [] := by
  rw [List.filter_eq_nil_iff]
  intro y hy
  have := (h.mem_le hy).2.2
  simp; omega

theorem own_slice {w : World} {base : Nat} {e : TypeId} {size : Nat} {v : Value} {n : Nat} {xs : List Value} (h : w.ownsRow base e size v n xs) (hn : 0 < n) : ∃ g cap, v = .slice (some ⟨g, 0, none⟩) n cap := by
  rcases Joins.ownsRow_forms h with ⟨_, hz⟩ | ⟨g, cap, rfl⟩
  · omega
  · exact ⟨g, cap, rfl⟩

theorem own_none {w : World} {base : Nat} {e : TypeId} {size : Nat} {v : Value} {xs : List Value} (h : w.ownsRow base e size v 0 xs) : ∃ ad cap, v = .slice ad 0 cap := row_slice h

set_option maxHeartbeats 2000000 in
theorem fetches_any {w : World} {v : Value} {l : List PDeed} (size most off : Int) (h : InDeeds w v l) : Calls Tryz.prog 3 #[.int .i64 size, v, .int .i64 most, .int .i64 off] w (AwakePost w) := by
  obtain ⟨A, hA⟩ := madeL_is size l
  obtain ⟨m1, m2, m3, m4⟩ := one_most most
  have hw1 : wrap64 (most.tmod 32 + 32) = most.tmod 32 + 32 := IntWalk.wrap64_in _ (by omega)
  have hw2 : wrap64 (1 + (most.tmod 32 + 32).tmod 32) = 1 + (most.tmod 32 + 32).tmod 32 := IntWalk.wrap64_in _ (by omega)
  have HA := hid hA
  have HI := hid h
  clear hA h m3 m4
  go_enter Tryz.func3, Tryz.ntmps3
  go_wp2_with fail
  refine (made_any size HI.out).mono ?_
  rintro e w1 ⟨ll, d, av, S, SD, rfl, hlog, hd, hrow, _, _, hb⟩
  generalize madeL size l = r at HA hlog hd hrow
  obtain ⟨r1, D, acc⟩ := r
  obtain ⟨e1, hg, hnm, e2, hdw, hwf, hlen, _⟩ := HA.out
  dsimp only at e1 e2 hg hdw hlog hd hrow
  subst e1 e2
  clear HA HI
  unfold ptr
  have HL := hid hlog
  have HD := hid hd
  have HROW := hid hrow
  have HB := hid hb
  have HG := hid hg
  have HC := hid hg.inv.all_chain
  clear hlog hd hrow hb hg hnm
  go_wp2_with fail
  clear hw1 hw2
  generalize 1 + (most.tmod 32 + 32).tmod 32 = mo at m1 m2 ⊢
  refine (every_any mo A.all HL.out HD.out hdw hwf (fun o => HG.out.inv.fetch_pos hdw HG.out.off o) ⟨m1, m2⟩ HC.out.1 HC.out.2 (by omega) (every_spec HG.out.inv hdw HG.out.off HG.out.e ⟨m1, m2⟩).1).mono ?_
  rintro e w2 ⟨v2, rfl, hrow2, hb2⟩
  have HROW2 := hid hrow2
  have HB2 := hid (bel_next HB.out hb2)
  have HL2 := hid (HL.out.below hb2)
  have HD2 := hid (HD.out.below hb2)
  have HR2 := hid (own_bel HROW.out hb2)
  clear hrow2 hb2 HL HD HROW HB
  go_wp2_with fail
  refine (same_yes (Reads.of_own HROW2.out) (Reads.of_own HR2.out) (by omega)).mono ?_
  rintro e w3 ⟨rfl, n, rfl⟩
  have HB3 := hid (HB2.out.trans (bel_drewN w.heap.size w2 n))
  have HL3 := hid (HL2.out.below (bel_drewN w2.heap.size w2 n))
  have HD3 := hid (HD2.out.below (bel_drewN w2.heap.size w2 n))
  clear HB2 HL2 HD2 HROW2 HR2
  generalize w2.drewN n = w3 at HB3 HL3 HD3 ⊢
  go_wp2_with fail
  refine (fetch_any off mo HL3.out HD3.out hdw hwf (HG.out.inv.fetch_pos hdw HG.out.off off)).mono ?_
  rintro e w4 ⟨v4, rfl, hrow4, hb4⟩
  have HROW4 := hid hrow4
  have HB4 := hid (bel_next HB3.out hb4)
  have HL4 := hid (HL3.out.below hb4)
  clear HB3 HL3 HD3 hrow4 hb4
  have hfin : ∀ (e : Ending) (w' : World), AwakePost w4 e w' → ∃ _b : Unit, e = .returned (.bool true) ∧ Below w.heap.size w w' := fun e w' h => ⟨(), h.1, bel_next HB4.out h.2⟩
  have HFIN := hid hfin
  clear hfin
  by_cases c0 : off < A.toP.first
  · have hf : A.toP.fetch D off mo = ([], 6) := by
      unfold PLog.fetch
      rw [if_neg (by omega), if_neg (show ¬ A.toP.e ≠ 0 from fun h => h HG.out.e), if_pos (.inl c0)]
    rw [hf] at HROW4 ⊢
    obtain ⟨ad, cap, rfl⟩ := own_none HROW4.out
    have hd0 : decide (off < A.toP.first) = true := by simpa using c0
    clear hf c0
    dsimp only
    go_wp2_with fail
    refine (first_any HL4.out).mono ?_
    rintro e w' ⟨rfl, rfl⟩
    go_wp2_with fail
    refine (awake_any _).mono ?_
    rintro e w5 hp
    obtain ⟨_, rfl, hb5⟩ := HFIN.out _ _ hp
    have HB5 := hid hb5
    clear hp hb5
    go_wp2_with fail
    go_ret
    exact ⟨rfl, HB5.out⟩
  have hd0 : decide (off < A.toP.first) = false := by simpa using c0
  by_cases c1 : A.toP.next < off
  · have hf : A.toP.fetch D off mo = ([], 6) := by
      unfold PLog.fetch
      rw [if_neg (by omega), if_neg (show ¬ A.toP.e ≠ 0 from fun h => h HG.out.e), if_pos (.inr c1)]
    rw [hf] at HROW4 ⊢
    obtain ⟨ad, cap, rfl⟩ := own_none HROW4.out
    have hd1 : decide (A.toP.next < off) = true := by simpa using c1
    clear hf c0 c1
    dsimp only
    go_wp2_with fail
    refine (first_any HL4.out).mono ?_
    rintro e w' ⟨rfl, rfl⟩
    go_wp2_with fail
    refine (next_any HL4.out).mono ?_
    rintro e w' ⟨rfl, rfl⟩
    go_wp2_with fail
    refine (awake_any _).mono ?_
    rintro e w5 hp
    obtain ⟨_, rfl, hb5⟩ := HFIN.out _ _ hp
    have HB5 := hid hb5
    clear hp hb5
    go_wp2_with fail
    go_ret
    exact ⟨rfl, HB5.out⟩
  have hd1 : decide (A.toP.next < off) = false := by simpa using c1
  have hf := HG.out.inv.fetch hdw HG.out.off HG.out.e ⟨m1, m2⟩ (show A.first ≤ off from Int.not_lt.1 c0) (show off ≤ A.next from Int.not_lt.1 c1)
  by_cases c2 : off = A.toP.next
  · rw [filter_behind HC.out.1 (show endOf A.first A.all ≤ off by rw [HC.out.2, c2]; exact Int.le_refl _), List.take_nil] at hf
    rw [hf] at HROW4 ⊢
    obtain ⟨ad, cap, rfl⟩ := own_none HROW4.out
    have hd2 : (off == A.toP.next) = true := by simpa using c2
    clear hf c0 c1 c2
    dsimp only
    go_wp2_with fail
    refine (first_any HL4.out).mono ?_
    rintro e w' ⟨rfl, rfl⟩
    go_wp2_with fail
    refine (next_any HL4.out).mono ?_
    rintro e w' ⟨rfl, rfl⟩
    go_wp2_with fail
    refine (next_any HL4.out).mono ?_
    rintro e w' ⟨rfl, rfl⟩
    go_wp2_with fail
    refine (awake_any _).mono ?_
    rintro e w5 hp
    obtain ⟨_, rfl, hb5⟩ := HFIN.out _ _ hp
    have HB5 := hid hb5
    clear hp hb5
    go_wp2_with fail
    go_ret
    exact ⟨rfl, HB5.out⟩
  · obtain ⟨y, q, hfl, y1, y2, ymem⟩ := fetch_head HC.out.1 (show A.first ≤ off from Int.not_lt.1 c0) (show off < endOf A.first A.all by rw [HC.out.2]; have h9 : A.toP.next = A.next := rfl; omega)
    rw [hfl] at hf
    obtain ⟨n1, hn1⟩ : ∃ n1, mo.toNat = n1 + 1 := ⟨mo.toNat - 1, by omega⟩
    rw [hn1, List.take_succ_cons] at hf
    rw [hf] at HROW4 ⊢
    dsimp only at HROW4 ⊢
    have hyok := HC.out.1.ok y ymem
    obtain ⟨o1, o2, o3, o4, _⟩ := hyok
    have hlq : (q.take n1).length ≤ 400 := by
      have h9 := congrArg List.length hfl
      have h10 := List.length_filter_le (fun y : Ent => decide (off < y.base + y.n)) A.all
      simp at h9
      rw [List.length_take]; omega
    obtain ⟨g, cap, rfl⟩ := own_slice HROW4.out (by simp)
    have p0 : w4.cell? ⟨g, 0, none⟩ = some (.int .i64 y.base) := by rw [HROW4.out.cellAt 0 (by simp)]; rfl
    have p1 : w4.cell? ⟨g, 1, none⟩ = some (.int .i64 y.n) := by rw [HROW4.out.cellAt 1 (by simp; omega)]; rfl
    have hd2 : (off == A.toP.next) = false := by simpa using c2
    have hd3 : decide (y.base ≤ off) = true := by simpa using y1
    have hd4 : decide (off < y.base + y.n) = true := by simpa using y2
    generalize hmm : (y :: q.take n1).length = m at HROW4 ⊢
    have hm1 : 1 ≤ m := by rw [← hmm]; simp
    have hm0 : 0 < m := hm1
    have hd5 : decide (0 < m) = true := by simpa using hm0
    clear hf hfl c0 c1 c2 hn1 hmm ymem
    go_wp2_with fail
    refine (first_any HL4.out).mono ?_
    rintro e w' ⟨rfl, rfl⟩
    go_wp2_with fail
    refine (next_any HL4.out).mono ?_
    rintro e w' ⟨rfl, rfl⟩
    go_wp2_with fail
    refine (next_any HL4.out).mono ?_
    rintro e w' ⟨rfl, rfl⟩
    go_wp2_with fail
    have hgl : g < w4.heap.size := World.block_lt_of_cell? w4 _ p0
    have k5 : IntKind.i64.wrap (y.base + y.n) = y.base + y.n := IntWalk.i64_in _ (by omega)
    go_region_held3 (fun w' => w'.cell? ⟨g, 0, none⟩ = some (.int .i64 y.base) ∧ w'.cell? ⟨g, 1, none⟩ = some (.int .i64 y.n)) (go_keep)
      ((go_at_call 17; refine (awake_any _).mono ?_; rintro e w5 ⟨rfl, hb5⟩; have HB5 := hid hb5; have e0 : w5.cell? ⟨g, 0, none⟩ = some (.int .i64 y.base) := (hb5.cell (p := ⟨g, 0, none⟩) (by simpa using hgl)).trans (by go_simp); have e1 : w5.cell? ⟨g, 1, none⟩ = some (.int .i64 y.n) := (hb5.cell (p := ⟨g, 1, none⟩) (by simpa using hgl)).trans (by go_simp); clear hb5))
    go_wp2_with fail
    go_ret
    exact ⟨rfl, bel_next (HB4.out.trans (bel_drewN _ _ 1)) HB5.out⟩
end Go.Proofs.YtnibpknhpjcamaaGreatDoor

namespace Go.Proofs.YtnibpknhpjcamaaGreatDoor
open Go.RowKit

/-- A log and its disk, all of it made since w. -/
structure LogIn (w wr : World) (ll d : Nat) (S SD : Nat → Prop) (L : PLog) (D : PDisk) : Prop where
  log : LogAt wr ll d S L
  disk : DiskAt wr d SD D
  s : ∀ i, S i → w.heap.size ≤ i
  sd : ∀ i, SD i → w.heap.size ≤ i
  bel : Below w.heap.size w wr

theorem LogIn.below {w wr w1 : World} {ll d : Nat} {S SD : Nat → Prop} {L : PLog} {D : PDisk} (h : LogIn w wr ll d S SD L D) (hb : Below wr.heap.size wr w1) : LogIn w w1 ll d S SD L D :=
  ⟨h.log.below hb, h.disk.below hb, h.s, h.sd, bel_next h.bel hb⟩

/-- What stays across a call on a log. -/
structure Keeps (wa w5 : World) : Prop where
  row : ∀ {base : Nat} {e : TypeId} {size : Nat} {v : Value} {n : Nat} {xs : List Value}, wa.ownsRow base e size v n xs → e ≠ 97 → e ≠ 99 → e ≠ 54 → e ≠ 110 → e ≠ 112 → w5.ownsRow base e size v n xs
  blk : ∀ {b : Nat} {c : Array Value} {T : TypeId}, Blk wa b c T → T ≠ 97 → T ≠ 99 → T ≠ 54 → T ≠ 110 → T ≠ 112 → Blk w5 b c T
  size : wa.heap.size ≤ w5.heap.size

theorem Keeps.of_below {wa w5 : World} (h : Below wa.heap.size wa w5) : Keeps wa w5 := ⟨fun h1 _ _ _ _ _ => own_bel h1 h, fun h1 _ _ _ _ _ => h1.below' h, h.size⟩
theorem Keeps.trans {a b c : World} (h : Keeps a b) (k : Keeps b c) : Keeps a c :=
  ⟨fun h1 a1 a2 a3 a4 a5 => k.row (h.row h1 a1 a2 a3 a4 a5) a1 a2 a3 a4 a5, fun h1 a1 a2 a3 a4 a5 => k.blk (h.blk h1 a1 a2 a3 a4 a5) a1 a2 a3 a4 a5, Nat.le_trans h.size k.size⟩

theorem LogIn.call {w wa w5 : World} {ll d : Nat} {S SD : Nat → Prop} {L L' : PLog} {D D' : PDisk} (h : LogIn w wa ll d S SD L D) (hto : LogTo wa w5 ll d S SD L' D') :
    (∃ S' SD', LogIn w w5 ll d S' SD' L' D') ∧ Keeps wa w5 := by
  obtain ⟨S5, SD5, hl5, hd5, hf5, hs5, hsd5⟩ := hto
  have hsz := h.bel.size
  refine ⟨⟨S5, SD5, hl5, hd5, fun i hi => ?_, fun i hi => ?_, ?_⟩, fun hr h1 h2 h3 h4 h5 => ?_, fun {b c T} hb h1 h2 h3 h4 h5 => ?_, hf5.size⟩
  · rcases hs5 i hi with h9 | h9
    · exact h.s i h9
    · omega
  · rcases hsd5 i hi with h9 | h9
    · exact h.sd i h9
    · omega
  · exact h.bel.trans (hf5.to_below hsz (fun i hi h9 => by
      rcases h9 with h9 | h9
      · have := h.s i h9; omega
      · have := h.sd i h9; omega))
  · exact row_fr hr hf5 (fun k hk h9 => by
      rcases h9 with h9 | h9
      · exact row_log hr h.log h1 h2 h3 k hk h9
      · exact row_disk hr h.disk h4 h5 k hk h9)
  · exact hb.fr hf5 (fun h9 => by
      have hb2 : wa.heap[b]? = some (.cells c T (0, 0)) := hb
      rcases h9 with h9 | h9
      · exact h.log.other hb2 h1 h2 h3 h9
      · exact h.disk.other hb h4 h5 h9)

theorem fr_grown {w w' : World} {row : Option Nat} (h : w.grownBy w' row) : Fr (fun k => row = some k) w w' :=
  ⟨h.os, h.tape, h.output, h.size, fun k hk hn => h.block k hk (fun e => hn e.symm)⟩

/-- A row of the caller's own grows: the log stays, and other blocks. -/
theorem LogIn.grown {w w5 wx w6 : World} {ll d : Nat} {S SD : Nat → Prop} {L : PLog} {D : PDisk} (h : LogIn w w5 ll d S SD L D) (ha : Below w5.heap.size w5 wx) {base : Nat} {e : TypeId} {size : Nat} {v : Value} {n : Nat} {xs : List Value} (hr : w5.ownsRow base e size v n xs) (hbase : w.heap.size ≤ base)
    (h1 : e ≠ 97) (h2 : e ≠ 99) (h3 : e ≠ 54) (h4 : e ≠ 110) (h5 : e ≠ 112) (hg : wx.grownBy w6 v.ownBlock) :
    LogIn w w6 ll d S SD L D ∧ ∀ {b : Nat} {c : Array Value} {T : TypeId}, Blk w5 b c T → T ≠ e → Blk w6 b c T := by
  have hf := fr_grown hg
  have hx := h.below ha
  have hrx := own_bel hr ha
  refine ⟨⟨hx.log.fr hf (fun k hk e => row_log hrx hx.log h1 h2 h3 k e hk), hx.disk.fr hf (fun k hk e => row_disk hrx hx.disk h4 h5 k e hk), h.s, h.sd, ?_⟩, fun {b c T} hb hT => ?_⟩
  · exact hx.bel.trans (hf.to_below hx.bel.size (fun i hi e => by have := (hr.lt i e).1; omega))
  · refine (hb.below' ha).fr hf (fun e => ?_)
    obtain ⟨c2, fz, hc⟩ := Lib.ownsRow_kind hr b e
    unfold Blk at hb
    rw [hb] at hc
    injection hc with hc
    injection hc with _ hc _
    exact hT hc
end Go.Proofs.YtnibpknhpjcamaaGreatDoor

namespace Go.Proofs.YtnibpknhpjcamaaGreatDoor
open Go.RowKit

/-- What items become, with Go's sums. -/
def mkW : Int → List PItem → List Ent
  | _, [] => []
  | b, x :: r => ⟨b, x.n, x.text⟩ :: mkW (wrap64 (b + x.n)) r

theorem mkW_eq : ∀ (its : List PItem) (b : Int), 0 ≤ b → Chain b (mkEnts b its) → endOf b (mkEnts b its) ≤ 1099511627776 → mkW b its = mkEnts b its
  | [], _, _, _, _ => rfl
  | x :: r, b, h0, h, hm => by
    rw [mkEnts] at h hm
    rw [endOf_cons b _ _ rfl] at hm
    have hle := h.2.2.le
    have hn : 1 ≤ x.n := h.2.1.2.2.1
    have hle2 : b + x.n ≤ endOf (b + x.n) (mkEnts (b + x.n) r) := hle
    have hm2 : endOf (b + x.n) (mkEnts (b + x.n) r) ≤ 1099511627776 := hm
    have hw : wrap64 (b + x.n) = b + x.n := IntWalk.wrap64_in _ (by omega)
    rw [mkW, mkEnts, hw, mkW_eq r (b + x.n) (by omega) h.2.2 hm2]

theorem mkW_len (b : Int) (l : List PItem) : (mkW b l).length = l.length := by
  induction l generalizing b with
  | nil => rfl
  | cons x l ih => simp [mkW, ih]

/-- The sum so far. -/
def sumW : Int → List PItem → Int
  | b, [] => b
  | b, x :: r => sumW (wrap64 (b + x.n)) r
theorem mkW_snoc (b : Int) (l : List PItem) (y : PItem) : mkW b (l ++ [y]) = mkW b l ++ [⟨sumW b l, y.n, y.text⟩] := by
  induction l generalizing b with
  | nil => rfl
  | cons x r ih => simp only [List.cons_append, mkW, sumW, ih]
theorem sumW_snoc (b : Int) (l : List PItem) (y : PItem) : sumW b (l ++ [y]) = wrap64 (sumW b l + y.n) := by
  induction l generalizing b with
  | nil => rfl
  | cons x r ih => simp only [List.cons_append, sumW, ih]

/-- May the first one be? -/
def may0 (y : PItem) : Bool := decide (1 ≤ y.n ∧ y.n ≤ 64 ∧ y.text.length ≤ 65536)

/-- A log whose power may go. -/
structure Dim (A : ALog) (D : PDisk) (N : Int) : Prop where
  inv : Inv A D
  wf : D.WF N
  e : A.e = 0 ∨ A.e = 4
  name : A.name = [108, 111, 103]

/-- What is left of it when its power has gone: X is not on the disk. -/
structure Gone (A2 : ALog) (L : PLog) (D : PDisk) (N : Int) (acc X : List Ent) : Prop where
  inv : Inv A2 D
  wf : D.WF N
  name : A2.name = [108, 111, 103]
  sure : L.sure = A2.sure
  all : acc = A2.all ++ X

theorem Dim.gone {A : ALog} {D : PDisk} {N : Int} (h : Dim A D N) (X : List Ent) : Gone A A.toP D N (A.all ++ X) X := ⟨h.inv, h.wf, h.name, rfl, rfl⟩

inductive DimOut (A : ALog) (D : PDisk) (N : Int) (its : List PItem) : ALog × PDisk × Int × Int → Prop
  | ok (A' : ALog) (D' : PDisk) (dim : Dim A' D' N) (all : A'.all = A.all ++ mkW A.next its) (n : Int) : DimOut A D N its (A', D', n, 0)
  | no (A' : ALog) (D' : PDisk) (dim : Dim A' D' N) (all : A'.all = A.all) (n c : Int) (hc : c ≠ 0) (hc4 : c ≠ 4) : DimOut A D N its (A', D', n, c)
  | gone (A' : ALog) (D' : PDisk) (n : Int) (yes : ∃ A2 X, Gone A2 A'.toP D' N (A.all ++ mkW A.next its) X) (no : (∃ y r, its = y :: r ∧ may0 y = false) → ∃ A2 X, Gone A2 A'.toP D' N A.all X) : DimOut A D N its (A', D', n, 4)

theorem Dim.append {A : ALog} {D : PDisk} {N : Int} (h : Dim A D N) {its : List PItem} (hne : its ≠ []) : DimOut A D N its (A.append D its) := by
  have h0 : 0 ≤ A.next := by have h1 := h.inv.sure_le; have h2 := h.inv.first; omega
  rcases h.e with he | he
  · have ho := h.inv.append_out h.wf he its
    have hwf := PLog.append_disk (L := A.toP) h.wf its
    rw [toP_append] at hwf
    generalize A.append D its = r at ho hwf ⊢
    cases ho with
    | ok A' D' inv name all next chain first e sure own' off fuse ents =>
      refine .ok A' D' ⟨inv, hwf, .inl e, by rw [name]; exact h.name⟩ ?_ _
      rw [all, mkW_eq its _ h0 chain (by rw [← next]; exact inv.top)]
    | full A' D' inv name segs e sure room len own' off fuse =>
      exact .no A' D' ⟨inv, hwf, .inl e, by rw [name]; exact h.name⟩ (by unfold ALog.all; rw [segs]) _ 5 (by decide) (by decide)
    | bad c why =>
      rcases why with ⟨h1, _⟩ | ⟨_, _, rfl | rfl⟩
      · exact absurd h1 hne
      · exact .no A D h rfl _ 1 (by decide) (by decide)
      · exact .no A D h rfl _ 6 (by decide) (by decide)
    | dark A' A2 D' inv name name2 segs sure sure' e chain max all off was =>
      have hmw := mkW_eq its _ h0 chain max
      refine .gone A' D' _ ?_ ?_
      · rcases all with hall | hall
        · exact ⟨A2, mkW A.next its, inv, hwf, by rw [name2]; exact h.name, sure.symm, by rw [hall]⟩
        · exact ⟨A2, [], inv, hwf, by rw [name2]; exact h.name, sure.symm, by rw [hall, hmw, List.append_nil]⟩
      · rintro ⟨y, r, rfl, hy⟩
        exfalso
        have hok := chain.2.1
        unfold may0 at hy
        simp only [decide_eq_false_iff_not] at hy
        exact hy ⟨hok.2.2.1, hok.2.2.2.1, hok.2.2.2.2⟩
  · have e1 : A.append D its = (A, D, 0, 4) := by
      unfold ALog.append
      rw [if_neg hne, if_pos (by rw [he]; decide), he]
    rw [e1]
    exact .gone A D 0 ⟨A, _, h.gone _⟩ (fun _ => ⟨A, [], by have := h.gone []; rwa [List.append_nil] at this⟩)

theorem Dim.sync {A : ALog} {D : PDisk} {N : Int} (h : Dim A D N) : Dim (A.sync D).1 (A.sync D).2.1 N ∧ (A.sync D).1.all = A.all := by
  rcases h.e with he | he
  · have ho := h.inv.sync_out h.wf he
    have hwf := PLog.sync_disk (L := A.toP) h.wf
    rw [toP_sync] at hwf
    generalize A.sync D = r at ho hwf ⊢
    cases ho with
    | ok A' D' inv name segs e sure room len own' off fuse => exact ⟨⟨inv, hwf, .inl e, by rw [name]; exact h.name⟩, by unfold ALog.all; rw [segs]⟩
    | dark D' inv off was => exact ⟨⟨inv, hwf, .inr rfl, h.name⟩, rfl⟩
  · have e1 : (A.sync D).1 = A ∧ (A.sync D).2.1 = D := by
      unfold ALog.sync
      split
      · exact ⟨rfl, rfl⟩
      · rw [if_pos (by rw [he]; decide)]; exact ⟨rfl, rfl⟩
    rw [e1.1, e1.2]
    exact ⟨h, rfl⟩

theorem DimOut.facts {A : ALog} {D : PDisk} {N : Int} {its : List PItem} {r : ALog × PDisk × Int × Int} (h : DimOut A D N its r) {y0 : PItem} (hy : its[0]? = some y0) :
    (r.2.2.2 = 0 → Dim r.1 r.2.1 N ∧ r.1.all = A.all ++ mkW A.next its) ∧ (r.2.2.2 ≠ 0 → r.2.2.2 ≠ 4 → Dim r.1 r.2.1 N ∧ r.1.all = A.all) ∧
      (r.2.2.2 = 4 → (∃ A2 X, Gone A2 r.1.toP r.2.1 N (A.all ++ mkW A.next its) X) ∧ (may0 y0 = false → ∃ A2 X, Gone A2 r.1.toP r.2.1 N A.all X)) := by
  cases h with
  | ok A' D' dim all n => exact ⟨fun _ => ⟨dim, all⟩, fun h9 => absurd rfl h9, fun h9 => by simp at h9⟩
  | no A' D' dim all n c hc hc4 => exact ⟨fun h9 => absurd h9 hc, fun _ _ => ⟨dim, all⟩, fun h9 => absurd h9 hc4⟩
  | gone A' D' n yes no =>
    refine ⟨fun h9 => by simp at h9, fun _ h9 => absurd rfl h9, fun _ => ⟨yes, fun hm => no ⟨y0, its.tail, ?_, hm⟩⟩⟩
    cases its with
    | nil => simp at hy
    | cons z r => simp at hy; rw [hy]; rfl
end Go.Proofs.YtnibpknhpjcamaaGreatDoor

namespace Go.Proofs.YtnibpknhpjcamaaGreatDoor
open Go.RowKit

def MayPost (w : World) (b : Bool) (e : Ending) (w' : World) : Prop := e = .returned (.bool b) ∧ Below w.heap.size w w'

set_option maxHeartbeats 1000000 in
theorem may_any (n : Int) (t : List UInt8) (w : World) : Calls Tryz.prog 32 #[.agg #[.int .i64 0, .int .i64 n, .string (bs t)]] w (MayPost w (may0 ⟨n, t⟩)) := by
  have hm : Hid (may0 ⟨n, t⟩ = decide (1 ≤ n ∧ n ≤ 64 ∧ t.length ≤ 65536)) := hid rfl
  have hsz : (bs t).size = t.length := rfl
  have hb : Below w.heap.size w (w.alloc (.cells #[.int .i64 0, .int .i64 n, .string (bs t)] 37)) := bel_alloc (Below.refl _ _) _
  have HB := hid hb
  clear hb
  by_cases h1 : 1 ≤ n
  · have d1 : decide (1 ≤ n) = true := by simpa using h1
    by_cases h2 : n ≤ 64
    · have d2 : decide (n ≤ 64) = true := by simpa using h2
      by_cases h3 : t.length ≤ 65536
      · have d3 : decide ((t.length : Int) ≤ 65536) = true := by simp; omega
        have HM : Hid (may0 ⟨n, t⟩ = true) := hid (by rw [hm.out]; simp [h1, h2, h3])
        clear h1 h2 h3
        go_enter Tryz.func32, Tryz.ntmps32
        go_wp2_with fail
        go_ret
        rw [HM.out]
        exact ⟨rfl, HB.out⟩
      · have d3 : decide ((t.length : Int) ≤ 65536) = false := by simp; omega
        have HM : Hid (may0 ⟨n, t⟩ = false) := hid (by rw [hm.out]; simp [h3])
        clear h1 h2 h3
        go_enter Tryz.func32, Tryz.ntmps32
        go_wp2_with fail
        go_ret
        rw [HM.out]
        exact ⟨rfl, HB.out⟩
    · have d2 : decide (n ≤ 64) = false := by simpa using h2
      have HM : Hid (may0 ⟨n, t⟩ = false) := hid (by rw [hm.out]; simp [h2])
      clear h1 h2
      go_enter Tryz.func32, Tryz.ntmps32
      go_wp2_with fail
      go_ret
      rw [HM.out]
      exact ⟨rfl, HB.out⟩
  · have d1 : decide (1 ≤ n) = false := by simpa using h1
    have HM : Hid (may0 ⟨n, t⟩ = false) := hid (by rw [hm.out]; simp [h1])
    clear h1
    go_enter Tryz.func32, Tryz.ntmps32
    go_wp2_with fail
    go_ret
    rw [HM.out]
    exact ⟨rfl, HB.out⟩
end Go.Proofs.YtnibpknhpjcamaaGreatDoor
