/-
  CoordExpires, plain: what is added goes on, and when it is to be given up. No conditions.
  CoordExpires: the walk. No conditions but deeds that read.
-/
import Derived.Test.YtbnefpdjcbegpaaGreatDoorHTM
import Derived.Deep.DeepCutAuto
set_option maxRecDepth 100000
namespace Go.Proofs.YtbnefpdjcbegpaaGreatDoor
open Go.RowKit

theorem ofInt_wrap (X : BitVec 64) : BitVec.ofInt 64 (IntKind.i64.wrap (X.toNat : Int)) = X := by
  apply BitVec.eq_of_toNat_eq
  rw [BitVec.toNat_ofInt, IntKind.wrap_i64]
  have := X.isLt
  omega

theorem and_or_i64 (a b : Int) (h0 : 0 ≤ b) (h1 : b < 8192) : andI (orI a b) b = b := by
  unfold andI orI bits
  dsimp only
  show IntKind.i64.wrap ((BitVec.ofInt 64 (IntKind.i64.wrap ((BitVec.ofInt 64 a ||| BitVec.ofInt 64 b).toNat : Int)) &&& BitVec.ofInt 64 b).toNat : Int) = b
  rw [ofInt_wrap]
  have e : (BitVec.ofInt 64 a ||| BitVec.ofInt 64 b) &&& BitVec.ofInt 64 b = BitVec.ofInt 64 b := by
    apply BitVec.eq_of_getLsbD_eq
    intro i hi
    simp only [BitVec.getLsbD_and, BitVec.getLsbD_or]
    cases (BitVec.ofInt 64 a).getLsbD i <;> cases (BitVec.ofInt 64 b).getLsbD i <;> rfl
  rw [e, BitVec.toNat_ofInt, IntKind.wrap_i64]
  omega

theorem and_zero_i64 (b : Int) : andI 0 b = 0 := by
  unfold andI bits
  dsimp only
  show IntKind.i64.wrap ((BitVec.ofInt 64 0 &&& BitVec.ofInt 64 b).toNat : Int) = 0
  have e : BitVec.ofInt 64 0 &&& BitVec.ofInt 64 b = 0#64 := by
    apply BitVec.eq_of_getLsbD_eq
    intro i hi
    simp
  rw [e]
  decide

/-- A transaction goes on, and has these partitions. -/
def Going (C : PCo) (pid ep parts : Int) : Prop := ∃ t, rowOf C.rows pid = some t ∧ t.epoch = ep ∧ t.state = 2 ∧ andI t.parts parts = parts

theorem Going.tick {C : PCo} {pid ep parts : Int} (h : Going C pid ep parts) : Going C.tick pid ep parts := h

theorem Going.late {C : PCo} {pid ep parts : Int} (h : Going C pid ep parts) (_ : TRight C.rows) : pid ∈ C.late ↔ C.due.getD pid.toNat 0 ≤ C.now := by
  obtain ⟨t, h1, _, h2, _⟩ := h
  obtain ⟨hm, hp⟩ := rowOf_mem h1
  unfold PCo.late
  simp only [List.mem_map, List.mem_filter, Bool.and_eq_true, beq_iff_eq, decide_eq_true_eq]
  constructor
  · rintro ⟨u, ⟨_, _, h3⟩, h4⟩
    rw [h4] at h3
    exact h3
  · intro h3
    exact ⟨t, ⟨hm, h2, by rw [hp]; exact h3⟩, hp⟩

section
variable {k : Nat} {C : PCo} {A : ALog} {D : PDisk} {pid parts : Int}

theorem add_going (h : CoRoom k C.rows A D) (hk : k ≤ 82) (hw : TWell k C.rows) (hp : 1 ≤ pid ∧ pid ≤ 8) (hq : 1 ≤ parts ∧ parts ≤ 4096) (hc : rowC C.rows pid = 0) (he : (C.add A.toP D pid (rowZ C.rows pid).epoch parts).e = 0) :
    ∃ C1 A1 D1, C.add A.toP D pid (rowZ C.rows pid).epoch parts = ⟨C1, A1.toP, D1, 0, 0⟩ ∧ CoRoom (k + 1) C1.rows A1 D1 ∧ Going C1 pid (rowZ C.rows pid).epoch parts ∧ C1.now = C.now ∧ C1.due = C.due.set pid.toNat (C.now + 10) := by
  obtain ⟨t, ht⟩ : ∃ t, rowOf C.rows pid = some t := by
    unfold rowC at hc
    cases h1 : rowOf C.rows pid with
    | none => rw [h1] at hc; exact absurd hc (by decide)
    | some t => exact ⟨t, rfl⟩
  have hz : rowZ C.rows pid = t := by unfold rowZ; rw [ht]; rfl
  have hE : rowE C.rows pid t.epoch = 0 := by unfold rowE; rw [ht]; exact if_neg (fun h9 => h9 rfl)
  obtain ⟨hm, hpp⟩ := rowOf_mem ht
  obtain ⟨w1, ⟨w2, w3⟩, w4⟩ := hw t hm
  have hok : (TNote.mk 2 pid parts).ok := ⟨hp, ⟨(by decide : (1 : Int) ≤ 2), (by decide : (2 : Int) ≤ 5)⟩, fun _ => ⟨hq.1, by dsimp only; omega⟩, fun h => absurd rfl h⟩
  rw [hz] at he ⊢
  unfold PCo.add at he ⊢
  rw [if_neg (fun h9 => h9 hok), h.ready hp, if_neg (fun h9 => h9 rfl), hE, if_neg (fun h9 => h9 rfl), hz] at he ⊢
  by_cases hst : t.state = 3 ∨ t.state = 4
  · rw [if_pos hst] at he
    exact absurd he (show ¬ ((10 : Int) = 0) by decide)
  · rw [if_neg hst] at he ⊢
    by_cases han : andI t.parts parts = parts
    · rw [if_pos han]
      refine ⟨_, A, D, rfl, h.more, ⟨t, ht, rfl, ?_, han⟩, rfl, rfl⟩
      rcases Int.lt_or_eq_of_le w2 with h9 | h9
      · omega
      · exfalso
        rw [w4 h9.symm, and_zero_i64] at han
        omega
    · rw [if_neg han]
      have hs2 : t.state = 1 ∨ t.state = 2 := by omega
      have hturn : t.turn ⟨2, pid, parts⟩ = some ⟨t.pid, t.epoch, 2, orI t.parts parts, t.last⟩ := by
        unfold PTr.turn
        rw [if_neg (show ¬ ((2 : Int) = 1) by decide), if_pos rfl, if_pos hs2]
      have hfo : foldT C.rows ⟨2, pid, parts⟩ = (setTr C.rows ⟨t.pid, t.epoch, 2, orI t.parts parts, t.last⟩, 0) := by
        unfold foldT
        rw [if_neg (fun h9 => h9 hok), ht]
        dsimp only
        rw [hturn]
        dsimp only
        rw [if_neg]
        have := (h.right.all t hm).2.2
        omega
      obtain ⟨A', D', g1, g2⟩ := h.write hk hfo
      rw [g1]
      dsimp only
      rw [if_neg (fun h9 => h9 rfl)]
      refine ⟨_, A', D', rfl, g2, ⟨⟨t.pid, t.epoch, 2, orI t.parts parts, t.last⟩, ?_, rfl, rfl, and_or_i64 _ _ (by omega) (by omega)⟩, rfl, rfl⟩
      show rowOf (setTr C.rows _) pid = _
      rw [rowOf_set (s := t) (by rw [← hpp] at ht; exact ht), if_pos hpp.symm]

theorem add_again {ep : Int} (h : CoRoom k C.rows A D) (hp : 1 ≤ pid ∧ pid ≤ 8) (hq : 1 ≤ parts ∧ parts ≤ 4096) (hg : Going C pid ep parts) :
    C.add A.toP D pid ep parts = ⟨{ C with due := C.due.set pid.toNat (C.now + 10) }, A.toP, D, 0, 0⟩ := by
  obtain ⟨t, ht, h1, h2, h3⟩ := hg
  have hz : rowZ C.rows pid = t := by unfold rowZ; rw [ht]; rfl
  have hE : rowE C.rows pid ep = 0 := by unfold rowE; rw [ht]; exact if_neg (fun h9 => h9 h1)
  have hok : (TNote.mk 2 pid parts).ok := ⟨hp, ⟨(by decide : (1 : Int) ≤ 2), (by decide : (2 : Int) ≤ 5)⟩, fun _ => ⟨hq.1, by dsimp only; omega⟩, fun h => absurd rfl h⟩
  unfold PCo.add
  rw [if_neg (fun h9 => h9 hok), h.ready hp, if_neg (fun h9 => h9 rfl), hE, if_neg (fun h9 => h9 rfl), hz, if_neg (by omega), if_pos h3]
end

theorem due_set {l : List Int} {p : Nat} {z : Int} (hl : l.length = 9) (hp : p ≤ 8) : (l.set p z).getD p 0 = z := by
  rw [List.getD_eq_getElem?_getD, List.getElem?_set_self (by omega)]
  rfl
end Go.Proofs.YtbnefpdjcbegpaaGreatDoor

namespace Go.Proofs.YtbnefpdjcbegpaaGreatDoor
open Go.RowKit

theorem intsAt {w : World} {base : Nat} {ad : Option Addr} {n cap : Nat} {l : List Int} (h : w.ownsRow base 3 1 (.slice ad n cap) l.length (l.map (Value.int .i64))) {k : Nat} {x : Int} (hx : l[k]? = some x) :
    ∃ g, ad = some ⟨g, 0, none⟩ ∧ w.cell? ⟨g, k, none⟩ = some (.int .i64 x) := by
  obtain ⟨_, ad', cap', e, h2⟩ := Reads.of_own h
  injection e with e _ _
  subst e
  exact h2 k _ (by rw [List.getElem?_map, hx]; rfl)

theorem lawWhen (z : Int) : ∃ m : Nat, (wrap64 (z.tmod 9 + 9)).tmod 9 = m ∧ m ≤ 8 := by
  have h1 := Int.tmod_lt_of_pos z (show (0 : Int) < 9 by decide)
  have h2 : 0 ≤ z.tmod 9 + 9 := by have := Int.lt_tmod_of_pos z (show (0 : Int) < 9 by decide); omega
  have h3 := Int.tmod_nonneg 9 h2
  have h4 := Int.tmod_lt_of_pos (z.tmod 9 + 9) (show (0 : Int) < 9 by decide)
  rw [IntWalk.wrap64_in (z.tmod 9 + 9) (by omega)]
  exact ⟨((z.tmod 9 + 9).tmod 9).toNat, by omega, by omega⟩

/-- A coordinator whose transaction goes on. -/
structure GoCo (w wr : World) (c l d : Nat) (S SL SD : Nat → Prop) (C : PCo) (A : ALog) (D : PDisk) (k : Nat) (pid ep parts z0 z1 : Int) (b : Nat) (t : PTr) : Prop where
  made : CoMade w wr c l d S SL SD C A.toP D
  room : CoRoom k C.rows A D
  going : Going C pid ep parts
  now : C.now = z0
  due : C.due.getD pid.toNat 0 = z1
  row : AwayB wr S SL SD b #[.int .i64 t.pid, .int .i64 t.epoch, .int .i64 t.state, .int .i64 t.parts, .int .i64 t.last] 28

theorem GoCo.tick {w wr w2 : World} {c l d : Nat} {S SL SD : Nat → Prop} {C : PCo} {A : ALog} {D : PDisk} {k : Nat} {pid ep parts z0 z1 : Int} {b : Nat} {t : PTr} (h : GoCo w wr c l d S SL SD C A D k pid ep parts z0 z1 b t)
    (hto : TrioTo (coThing c l) wr w2 l d S SL SD C.tick A.toP D) : ∃ S2 SL2 SD2, GoCo w w2 c l d S2 SL2 SD2 C.tick A D k pid ep parts (z0 + 1) z1 b t := by
  obtain ⟨S2, SL2, SD2, a, _, hB⟩ := h.made.call hto
  exact ⟨S2, SL2, SD2, a, h.room, h.going, by show C.now + 1 = _; rw [h.now], h.due, hB _ _ _ h.row⟩

theorem GoCo.below {w wr w2 : World} {c l d : Nat} {S SL SD : Nat → Prop} {C : PCo} {A : ALog} {D : PDisk} {k : Nat} {pid ep parts z0 z1 : Int} {b : Nat} {t : PTr} (h : GoCo w wr c l d S SL SD C A D k pid ep parts z0 z1 b t)
    (hb : Below wr.heap.size wr w2) : GoCo w w2 c l d S SL SD C A D k pid ep parts z0 z1 b t :=
  ⟨h.made.below hb, h.room, h.going, h.now, h.due, h.row.below hb⟩

def ExpRel (w : World) (c l d : Nat) (k : Nat) (pid ep parts z0 z1 : Int) (b : Nat) (t : PTr) (wr : World) : Prop :=
  ∃ (C : PCo) (A : ALog) (D : PDisk) (S SL SD : Nat → Prop), GoCo w wr c l d S SL SD C A D k pid ep parts z0 z1 b t

set_option maxHeartbeats 40000000 in
theorem expires_any {w : World} {v : Value} {l : List CDeed} (pid0 parts0 when0 : Int) (h : InCDeeds w v l) :
    Calls Tryz.prog 3 #[v, .int .i64 pid0, .int .i64 parts0, .int .i64 when0] w (AwakePost13 w) := by
  have HI := hid h
  clear h
  go_enter Tryz.func3, Tryz.ntmps3
  go_wp2_with fail
  refine (made13_any HI.out).mono ?_
  rintro e w1 ⟨c, ll, d, S, SL, SD, C, A, D, k, rfl, hm⟩
  have HM := hid hm
  have HPID := hid (lawPid pid0)
  have HPARTS := hid (lawParts parts0)
  have hl8 := hm.room.right.len
  clear hm HI
  go_wp2_with fail
  generalize wrap64 (1 + (wrap64 (pid0.tmod 3 + 3)).tmod 3) = pid at HPID ⊢
  generalize wrap64 (1 + bits BinOp.and IntKind.i64 parts0 4095) = parts at HPARTS ⊢
  refine (coRows_any HM.out.made.trio HM.out.room.right).mono ?_
  rintro e w2 ⟨v2, rfl, hrow2, hb2⟩
  have HN2 := hid hrow2
  have HM2 := hid (HM.out.below hb2)
  obtain ⟨va, vc, rfl⟩ := row_slice hrow2
  clear hb2 hrow2 HM
  go_wp2_with fail
  refine (refRow_any pid (Reads.of_own HN2.out) (by omega)).mono ?_
  rintro e w3 ⟨rfl, hb3⟩
  obtain ⟨t, ht⟩ : ∃ t, rowZ C.rows pid = t := ⟨_, rfl⟩
  obtain ⟨cc, hcc⟩ : ∃ cc, rowC C.rows pid = cc := ⟨_, rfl⟩
  rw [ht, hcc]
  unfold PTr.val
  have hbT : Below w3.heap.size w3 (w3.alloc (.cells #[.int .i64 t.pid, .int .i64 t.epoch, .int .i64 t.state, .int .i64 t.parts, .int .i64 t.last] 28)) := bel_alloc (Below.refl _ _) _
  have HM3 := hid ((HM2.out.below hb3).below hbT)
  have HT3 := hid ((HM2.out.below hb3).made.trio.awayB (Blk.new w3 #[.int .i64 t.pid, .int .i64 t.epoch, .int .i64 t.state, .int .i64 t.parts, .int .i64 t.last] 28) (Nat.le_refl _))
  have hp8 : 1 ≤ pid ∧ pid ≤ 8 := by have := HPID.out; omega
  have HP8 := hid hp8
  clear hb3 hbT HM2 HN2 hp8
  have t1 := HT3.out.blk.cell (i := 1) (v := .int .i64 t.epoch) rfl
  have HT := hid ht
  have HC := hid hcc
  clear ht hcc
  by_cases hc : cc = 0
  · subst hc
    go_wp2_with fail
    generalize w3.alloc (.cells #[.int .i64 t.pid, .int .i64 t.epoch, .int .i64 t.state, .int .i64 t.parts, .int .i64 t.last] 28) = w4 at HM3 HT3 t1 ⊢
    generalize w3.heap.size = tb at HT3 t1 ⊢
    refine (coAdd_any (N := 1000) pid t.epoch parts HM3.out.made.trio HM3.out.room.right (fun _ => HM3.out.room.good) ⟨HM3.out.now0, by have := HM3.out.now1; have := HM3.out.few; omega⟩).mono ?_
    rintro e w5 ⟨rfl, hto⟩
    by_cases he : (C.add A.toP D pid t.epoch parts).e = 0
    · obtain ⟨C1, A1, D1, h1, h2, h3, h4, h5⟩ := add_going HM3.out.room (by have := HM3.out.few; omega) HM3.out.well HP8.out HPARTS.out HC.out (by rw [HT.out]; exact he)
      rw [HT.out] at h1 h3
      rw [h1] at hto ⊢
      clear he h1
      obtain ⟨S5, SL5, SD5, hm5, _, hB⟩ := HM3.out.made.call hto
      obtain ⟨p, hp⟩ : ∃ p : Nat, pid = p := ⟨pid.toNat, by have := HP8.out; omega⟩
      obtain ⟨rv, hrep⟩ := CoAt.rep HM3.out.made.trio.obj
      have hdue : C1.due.getD pid.toNat 0 = C.now + 10 := by
        rw [h5]
        exact due_set hrep.due (by have := HP8.out; omega)
      have hn0 := HM3.out.now0
      have hn1 := HM3.out.now1
      have hk := HM3.out.few
      have HGO : Hid (ExpRel w c ll d (k + 1) pid t.epoch parts C.now (C.now + 10) tb t w5) := hid ⟨C1, A1, D1, S5, SL5, SD5, hm5, h2, h3, h4, hdue, hB _ _ _ HT3.out⟩
      generalize C.now = n0 at HGO hn0 hn1
      clear hto hm5 hB hp hrep hdue h2 h3 h4 h5 HM3 HT3 t1 HC HT
      obtain ⟨m, hm, hm8⟩ := lawWhen when0
      go_wp2_with fail
      clear hm
      go_loopw [13] (fun j wr => ∃ i : Nat, i ≤ m ∧ j = .int .i64 i ∧ ExpRel w c ll d (k + 1) pid t.epoch parts (n0 + i) (n0 + 10) tb t wr) (fun j _ => m - (intOf j).toNat)
      case atStart => exact ⟨0, Nat.zero_le _, rfl, by rw [Int.natCast_zero, Int.add_zero]; exact HGO.out⟩
      case round =>
        clear HGO
        obtain ⟨i, hi, rfl, C, A, D, S, SL, SD, hgo⟩ := hrel
        have HG := hid hgo
        clear hgo
        by_cases hlt : i < m
        · go_wp2_with fail
          refine (coTick_any HG.out.made.trio HG.out.room.right (by rw [HG.out.now]; omega)).mono ?_
          rintro e w6 ⟨v6, rfl, hto, hrow6⟩
          obtain ⟨S6, SL6, SD6, hg6⟩ := HG.out.tick hto
          have hno : pid ∉ C.tick.late := fun h9 => by
            have h8 := (hg6.going.late hg6.room.right).1 h9
            rw [hg6.now, hg6.due] at h8
            omega
          have HG6 := hid hg6
          have HNO := hid hno
          have hl6 : C.tick.late.length ≤ 1000 := by
            have h9 := hg6.room.right.len
            unfold PCo.late
            rw [List.length_map]
            have h8 := List.length_filter_le (fun t : PTr => t.state == 2 && decide (C.tick.due.getD t.pid.toNat 0 ≤ C.tick.now)) C.tick.rows
            omega
          obtain ⟨va, vc, rfl⟩ := row_slice hrow6
          have HR6 := hid hrow6
          generalize C.tick.late = lt at HNO HR6 hl6 ⊢
          clear hto hg6 hno hrow6 HG
          go_wp2_with fail
          go_loopw [15] (fun j wr => ∃ q : Nat, q ≤ lt.length ∧ j = .int .i64 q ∧ wr = w6) (fun j _ => lt.length - (intOf j).toNat)
          case atStart => exact ⟨0, Nat.zero_le _, rfl, rfl⟩
          case round =>
            obtain ⟨q, hq, rfl, rfl⟩ := hrel
            by_cases hql : q < lt.length
            · obtain ⟨x, hx⟩ : ∃ x, lt[q]? = some x := ⟨_, List.getElem?_eq_getElem hql⟩
              obtain ⟨g, rfl, c0⟩ := intsAt HR6.out hx
              have hxp : x ≠ pid := fun h9 => HNO.out (h9 ▸ List.mem_of_getElem? hx)
              have hx1 : decide (x = pid) = false := decide_eq_false hxp
              have hx2 : (x == pid) = false := by simpa using hxp
              have hq0 : (0 : Int) ≤ (q : Int) := by omega
              have hq1 : (q : Int) < (lt.length : Int) := by omega
              clear hx
              go_wp2_with fail
              go_roundw
              case rel => exact ⟨q + 1, by omega, by go_num, by trivial⟩
              case measure => simp [intOf]; omega
            · obtain rfl : q = lt.length := by omega
              go_wp2_with fail
              go_roundw
              case rel => exact ⟨i + 1, by omega, by go_num, C.tick, A, D, S6, SL6, SD6, by rw [show n0 + ((i + 1 : Nat) : Int) = n0 + i + 1 by omega]; exact HG6.out⟩
              case measure => simp [intOf]; omega
        · obtain rfl : i = m := by omega
          have t1 := HG.out.row.blk.cell (i := 1) (v := .int .i64 t.epoch) rfl
          go_wp2_with fail
          refine (coAdd_any (N := 1000) pid t.epoch parts HG.out.made.trio HG.out.room.right (fun _ => HG.out.room.good) (by rw [HG.out.now]; omega)).mono ?_
          rintro e w7 ⟨rfl, hto⟩
          rw [add_again HG.out.room HP8.out HPARTS.out HG.out.going] at hto ⊢
          obtain ⟨S7, SL7, SD7, hm7, _, hB⟩ := HG.out.made.call hto
          obtain ⟨rv, hrep⟩ := CoAt.rep HG.out.made.trio.obj
          have hdue : (C.due.set pid.toNat (C.now + 10)).getD pid.toNat 0 = C.now + 10 := due_set hrep.due (by have := HP8.out; omega)
          have hnow := HG.out.now
          have HGO : Hid (ExpRel w c ll d (k + 1) pid t.epoch parts C.now (C.now + 10) tb t w7) := hid ⟨{ C with due := C.due.set pid.toNat (C.now + 10) }, A, D, S7, SL7, SD7, hm7, HG.out.room, HG.out.going, rfl, hdue, hB _ _ _ HG.out.row⟩
          have hz0 : 0 ≤ C.now ∧ C.now ≤ 1000 := by omega
          generalize C.now = z at HGO hz0
          clear hto hm7 hB hrep hdue hnow HG t1
          go_wp2_with fail
          go_loopw [16] (fun j wr => ∃ i : Nat, i ≤ 10 ∧ j = .int .i64 ((i : Int) + 1) ∧ ExpRel w c ll d (k + 1) pid t.epoch parts (z + i) (z + 10) tb t wr) (fun j _ => 11 - (intOf j).toNat)
          case atStart => exact ⟨0, Nat.zero_le _, rfl, by rw [Int.natCast_zero, Int.add_zero]; exact HGO.out⟩
          case round =>
            clear HGO
            rename Nat → Prop => S9
            obtain ⟨i, hi, rfl, C, A, D, S, SL, SD, hgo⟩ := hrel
            have HG := hid hgo
            clear hgo
            by_cases hlt : i < 10
            · have hle : (i : Int) + 1 ≤ 10 := by omega
              have hle2 : decide ((i : Int) + 1 ≤ 10) = true := decide_eq_true hle
              go_wp2_with fail
              refine (coTick_any HG.out.made.trio HG.out.room.right (by rw [HG.out.now]; omega)).mono ?_
              rintro e w6 ⟨v6, rfl, hto, hrow6⟩
              obtain ⟨S6, SL6, SD6, hg6⟩ := HG.out.tick hto
              have hno : pid ∈ C.tick.late ↔ (i : Int) + 1 = 10 := by
                rw [hg6.going.late hg6.room.right, hg6.now, hg6.due]
                omega
              have HG6 := hid hg6
              have HNO := hid hno
              have hl6 : C.tick.late.length ≤ 1000 := by
                have h9 := hg6.room.right.len
                unfold PCo.late
                rw [List.length_map]
                have h8 := List.length_filter_le (fun t : PTr => t.state == 2 && decide (C.tick.due.getD t.pid.toNat 0 ≤ C.tick.now)) C.tick.rows
                omega
              obtain ⟨va, vc, rfl⟩ := row_slice hrow6
              have HR6 := hid hrow6
              generalize C.tick.late = lt at HNO HR6 hl6 ⊢
              clear hto hg6 hno hrow6 HG
              go_wp2_with fail
              go_loopw [19, 18] (fun j b wr => ∃ q : Nat, q ≤ lt.length ∧ j = .int .i64 q ∧ b = .bool (decide (pid ∈ lt.take q)) ∧ wr = w6) (fun j _ _ => lt.length - (intOf j).toNat)
              case atStart => exact ⟨0, Nat.zero_le _, rfl, by simp, rfl⟩
              case round =>
                obtain ⟨q, hq, rfl, rfl, rfl⟩ := hrel
                by_cases hql : q < lt.length
                · obtain ⟨x, hx⟩ : ∃ x, lt[q]? = some x := ⟨_, List.getElem?_eq_getElem hql⟩
                  obtain ⟨g, rfl, c0⟩ := intsAt HR6.out hx
                  have hq0 : (0 : Int) ≤ (q : Int) := by omega
                  have hq1 : (q : Int) < (lt.length : Int) := by omega
                  have hnext : pid ∈ lt.take (q + 1) ↔ (pid ∈ lt.take q ∨ x = pid) := by
                    rw [List.take_add_one, hx, List.mem_append]
                    simp [eq_comm]
                  have HNX := hid hnext
                  clear hx hnext
                  by_cases hin : pid ∈ lt.take q
                  · rw [decide_eq_true hin]
                    have HB : Hid (decide (pid ∈ lt.take (q + 1)) = true) := hid (decide_eq_true (HNX.out.2 (.inl hin)))
                    clear hin
                    go_wp2_with fail
                    go_roundw
                    case rel => exact ⟨q + 1, by omega, by go_num, by rw [HB.out], by trivial⟩
                    case measure => simp [intOf]; omega
                  · rw [decide_eq_false hin]
                    by_cases hxp : x = pid
                    · have HB : Hid (decide (pid ∈ lt.take (q + 1)) = true) := hid (decide_eq_true (HNX.out.2 (.inr hxp)))
                      have hx1 : decide (x = pid) = true := decide_eq_true hxp
                      have hx2 : (x == pid) = true := by simpa using hxp
                      clear hin hxp
                      go_wp2_with fail
                      go_roundw
                      case rel => exact ⟨q + 1, by omega, by go_num, by rw [HB.out], by trivial⟩
                      case measure => simp [intOf]; omega
                    · have HB : Hid (decide (pid ∈ lt.take (q + 1)) = false) := hid (decide_eq_false (fun h9 => (HNX.out.1 h9).elim hin hxp))
                      have hx1 : decide (x = pid) = false := decide_eq_false hxp
                      have hx2 : (x == pid) = false := by simpa using hxp
                      clear hin hxp
                      go_wp2_with fail
                      go_roundw
                      case rel => exact ⟨q + 1, by omega, by go_num, by rw [HB.out], by trivial⟩
                      case measure => simp [intOf]; omega
                · obtain rfl : q = lt.length := by omega
                  rw [List.take_length]
                  by_cases hten : (i : Int) + 1 = 10
                  · rw [decide_eq_true (HNO.out.2 hten)]
                    have ht1 : ((i : Int) + 1 == 10) = true := by simpa using hten
                    have ht2 : decide ((i : Int) + 1 = 10) = true := decide_eq_true hten
                    go_wp2_with fail
                    go_roundw
                    case rel => exact ⟨i + 1, by omega, by go_num, C.tick, A, D, S6, SL6, SD6, by rw [show z + ((i + 1 : Nat) : Int) = z + i + 1 by omega]; exact HG6.out⟩
                    case measure => simp [intOf]; omega
                  · rw [decide_eq_false (fun h9 => hten (HNO.out.1 h9))]
                    have ht1 : ((i : Int) + 1 == 10) = false := by simpa using hten
                    have ht2 : decide ((i : Int) + 1 = 10) = false := decide_eq_false hten
                    go_wp2_with fail
                    go_roundw
                    case rel => exact ⟨i + 1, by omega, by go_num, C.tick, A, D, S6, SL6, SD6, by rw [show z + ((i + 1 : Nat) : Int) = z + i + 1 by omega]; exact HG6.out⟩
                    case measure => simp [intOf]; omega
            · have hle : ¬ ((i : Int) + 1 ≤ 10) := by omega
              have hle2 : decide ((i : Int) + 1 ≤ 10) = false := decide_eq_false hle
              go_wp2_with fail
              refine (awake13_any _).mono ?_
              rintro e w4 ⟨rfl, hb4⟩
              have HB9 := hid (bel_next HG.out.made.bel hb4)
              clear hb4
              go_wp2_with fail
              go_ret
              exact ⟨rfl, HB9.out⟩
    · obtain ⟨S5, SL5, SD5, hm5⟩ := HM3.out.made.next hto
      have HB5 := hid hm5.bel
      generalize (C.add A.toP D pid t.epoch parts).e = ee at he ⊢
      have hz1 : (ee != 0) = true := by simpa using he
      have hz2 : decide (ee = 0) = false := decide_eq_false he
      have hz3 : (ee == 0) = false := by simpa using he
      clear hto hm5
      go_wp2_with fail
      refine (awake13_any _).mono ?_
      rintro e w6 ⟨rfl, hb6⟩
      have HB9 := hid (bel_next HB5.out hb6)
      clear hb6
      go_wp2_with fail
      go_ret
      exact ⟨rfl, HB9.out⟩
  · have hz1 : (cc != 0) = true := by simpa using hc
    have hz2 : decide (cc = 0) = false := decide_eq_false hc
    have hz3 : (cc == 0) = false := by simpa using hc
    go_wp2_with fail
    refine (awake13_any _).mono ?_
    rintro e w4 ⟨rfl, hb4⟩
    have HB9 := hid (bel_next HM3.out.made.bel hb4)
    clear hb4
    go_wp2_with fail
    go_ret
    exact ⟨rfl, HB9.out⟩
end Go.Proofs.YtbnefpdjcbegpaaGreatDoor
