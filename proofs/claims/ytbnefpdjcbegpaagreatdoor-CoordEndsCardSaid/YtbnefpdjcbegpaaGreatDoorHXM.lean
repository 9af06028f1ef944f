/-
  CoordEnds, plain: a transaction that goes on is decided, and comes to its end. No conditions.
  CoordEnds: the walk. No conditions but deeds that read.
-/
import Derived.Test.YtbnefpdjcbegpaaGreatDoorHTM
import Derived.Test.YtbnefpdjcbegpaaGreatDoorHVM
import Derived.Test.YtbnefpdjcbegpaaGreatDoorGKM
import Derived.Test.YtbnefpdjcbegpaaGreatDoorHJM
import Derived.Deep.DeepCutAuto
set_option maxRecDepth 100000
namespace Go.Proofs.YtbnefpdjcbegpaaGreatDoor
open Go.RowKit

theorem rowZ_of {s : List PTr} {pid : Int} {t : PTr} (h : rowOf s pid = some t) : rowZ s pid = t := by unfold rowZ; rw [h]; rfl
theorem rowE_own {s : List PTr} {pid : Int} {t : PTr} (h : rowOf s pid = some t) : rowE s pid t.epoch = 0 := by unfold rowE; rw [h]; exact if_neg (fun h9 => h9 rfl)
theorem rowE_else {s : List PTr} {pid ep : Int} {t : PTr} (h : rowOf s pid = some t) (hn : t.epoch ≠ ep) : rowE s pid ep = 8 := by unfold rowE; rw [h]; exact if_pos hn

theorem foldT_turn {s : List PTr} {n : TNote} {t u : PTr} (hok : n.ok) (ht : rowOf s n.pid = some t) (hu : t.turn n = some u) (hm : u.epoch ≤ 1099511627776) : foldT s n = (setTr s u, 0) := by
  unfold foldT
  rw [if_neg (fun h9 => h9 hok), ht]
  dsimp only
  rw [hu]
  dsimp only
  rw [if_neg (by omega)]

theorem rowOf_turn {s : List PTr} {pid : Int} {t u : PTr} (ht : rowOf s pid = some t) (hp : u.pid = pid) : rowOf (setTr s u) pid = some u := by
  rw [rowOf_set (s := t) (by rw [hp]; exact ht), if_pos hp.symm]

section
variable {k : Nat} {C : PCo} {A : ALog} {D : PDisk} {L : PLog} {pid : Int} {t : PTr}

theorem end_first (h : CoRoom k C.rows A D) (hk : k ≤ 82) (hp : 1 ≤ pid ∧ pid ≤ 8) (ht : rowOf C.rows pid = some t) (hs : t.state = 2) {yes : Bool} {kk : Int} (hkk : (if yes then (3 : Int) else 4) = kk) :
    ∃ A1 D1, C.fin A.toP D pid t.epoch yes = ⟨{ C with rows := setTr C.rows ⟨pid, t.epoch, kk, t.parts, t.last⟩ }, A1.toP, D1, 0, 0⟩ ∧ CoRoom (k + 1) (setTr C.rows ⟨pid, t.epoch, kk, t.parts, t.last⟩) A1 D1 ∧
      coWrite C.rows A.toP D ⟨kk, pid, 0⟩ = (setTr C.rows ⟨pid, t.epoch, kk, t.parts, t.last⟩, A1.toP, D1, 0) := by
  have hk34 : kk = 3 ∨ kk = 4 := by cases yes <;> simp at hkk <;> omega
  obtain ⟨hm, hpp⟩ := rowOf_mem ht
  have hok : (TNote.mk kk pid 0).ok := ⟨hp, ⟨by dsimp only; omega, by dsimp only; omega⟩, fun h9 => by dsimp only at h9; omega, fun _ => rfl⟩
  have hturn : t.turn ⟨kk, pid, 0⟩ = some ⟨pid, t.epoch, kk, t.parts, t.last⟩ := by
    unfold PTr.turn
    rw [if_neg (by dsimp only; omega), if_neg (by dsimp only; omega), if_pos hk34, if_pos hs, hpp]
  have hfo := foldT_turn hok ht hturn (h.right.all t hm).2.2
  obtain ⟨A1, D1, g1, g2⟩ := h.write hk hfo
  refine ⟨A1, D1, ?_, g2, g1⟩
  unfold PCo.fin
  dsimp only
  rw [hkk, h.ready hp, if_neg (fun h9 => h9 rfl), rowE_own ht, if_neg (fun h9 => absurd h9.1 (by decide)), if_neg (fun h9 => h9 rfl), rowZ_of ht, if_neg (by omega), if_neg (fun h9 => h9 hs), g1]

theorem end_same (hr : coReady L pid = 0) (ht : rowOf C.rows pid = some t) {yes : Bool} (hs : t.state = if yes then 3 else 4) : C.fin L D pid t.epoch yes = ⟨C, L, D, 0, 0⟩ := by
  unfold PCo.fin
  dsimp only
  rw [hr, if_neg (fun h9 => h9 rfl), rowE_own ht, if_neg (fun h9 => absurd h9.1 (by decide)), if_neg (fun h9 => h9 rfl), rowZ_of ht, if_pos hs]

theorem end_other (hr : coReady L pid = 0) (ht : rowOf C.rows pid = some t) {yes : Bool} (hs : t.state ≠ if yes then 3 else 4) (h2 : t.state ≠ 2) : C.fin L D pid t.epoch yes = ⟨C, L, D, 0, 9⟩ := by
  unfold PCo.fin
  dsimp only
  rw [hr, if_neg (fun h9 => h9 rfl), rowE_own ht, if_neg (fun h9 => absurd h9.1 (by decide)), if_neg (fun h9 => h9 rfl), rowZ_of ht, if_neg hs, if_pos h2]

theorem complete_first (h : CoRoom k C.rows A D) (hk : k ≤ 82) (hp : 1 ≤ pid ∧ pid ≤ 8) (ht : rowOf C.rows pid = some t) (hs : t.state = 3 ∨ t.state = 4) (hm : t.epoch + 1 ≤ 1099511627776) :
    ∃ A1 D1, C.complete A.toP D pid = ⟨{ C with rows := setTr C.rows ⟨pid, t.epoch + 1, 1, 0, t.state⟩ }, A1.toP, D1, t.epoch + 1, 0⟩ ∧ CoRoom (k + 1) (setTr C.rows ⟨pid, t.epoch + 1, 1, 0, t.state⟩) A1 D1 := by
  obtain ⟨_, hpp⟩ := rowOf_mem ht
  have hok : (TNote.mk 5 pid 0).ok := ⟨hp, ⟨(by decide : (1 : Int) ≤ 5), (by decide : (5 : Int) ≤ 5)⟩, fun h9 => absurd h9 (show ¬ ((5 : Int) = 2) by decide), fun _ => rfl⟩
  have hturn : t.turn ⟨5, pid, 0⟩ = some ⟨pid, t.epoch + 1, 1, 0, t.state⟩ := by
    unfold PTr.turn
    rw [if_neg (show ¬ ((5 : Int) = 1) by decide), if_neg (show ¬ ((5 : Int) = 2) by decide), if_neg (show ¬ ((5 : Int) = 3 ∨ (5 : Int) = 4) by decide), if_pos hs, hpp]
  have hfo := foldT_turn hok ht hturn hm
  obtain ⟨A1, D1, g1, g2⟩ := h.write hk hfo
  refine ⟨A1, D1, ?_, g2⟩
  unfold PCo.complete
  rw [h.ready hp, if_neg (fun h9 => h9 rfl), g1]
  dsimp only
  rw [if_neg (fun h9 => h9 rfl), rowZ_of (rowOf_turn ht rfl)]

theorem complete_no (hr : coReady L pid = 0) (hp : 1 ≤ pid ∧ pid ≤ 8) (ht : rowOf C.rows pid = some t) (hs : t.state = 1) : C.complete L D pid = ⟨C, L, D, 0, 9⟩ := by
  have hok : (TNote.mk 5 pid 0).ok := ⟨hp, ⟨(by decide : (1 : Int) ≤ 5), (by decide : (5 : Int) ≤ 5)⟩, fun h9 => absurd h9 (show ¬ ((5 : Int) = 2) by decide), fun _ => rfl⟩
  have hturn : t.turn ⟨5, pid, 0⟩ = none := by
    unfold PTr.turn
    rw [if_neg (show ¬ ((5 : Int) = 1) by decide), if_neg (show ¬ ((5 : Int) = 2) by decide), if_neg (show ¬ ((5 : Int) = 3 ∨ (5 : Int) = 4) by decide), if_neg (by omega)]
  have hfo : foldT C.rows ⟨5, pid, 0⟩ = ([], 9) := by
    unfold foldT
    rw [if_neg (fun h9 => h9 hok), ht]
    dsimp only
    rw [hturn]
  unfold PCo.complete coWrite
  rw [hr, if_neg (fun h9 => h9 rfl), hfo]
  dsimp only
  rw [if_pos (show (9 : Int) ≠ 0 by decide), if_pos (show (9 : Int) ≠ 0 by decide)]
end
end Go.Proofs.YtbnefpdjcbegpaaGreatDoor

namespace Go.Proofs.YtbnefpdjcbegpaaGreatDoor
open Go.RowKit

theorem rowOf_of {s : List PTr} {pid : Int} {t : PTr} (h : rowC s pid = 0) (hz : rowZ s pid = t) : rowOf s pid = some t := by
  unfold rowC at h
  unfold rowZ at hz
  cases h1 : rowOf s pid with
  | none => rw [h1] at h; exact absurd h (by decide)
  | some u => rw [h1] at hz; exact congrArg some hz

def EndMid (w : World) (d : Nat) (R1 : List PTr) (A1 : ALog) (D1 : PDisk) (tb : Nat) (t : PTr) (cv : Value) (wx : World) : Prop :=
  ∃ (c l : Nat) (S SL SD : Nat → Prop) (C : PCo), cv = .pointer (some ⟨c, 0, none⟩) ∧ CoMade w wx c l d S SL SD C A1.toP D1 ∧ C.rows = R1 ∧
    AwayB wx S SL SD tb #[.int .i64 t.pid, .int .i64 t.epoch, .int .i64 t.state, .int .i64 t.parts, .int .i64 t.last] 28

theorem not_kk {yes : Bool} {kk : Int} (h : (if yes then (3 : Int) else 4) = kk) : kk ≠ (if (!yes) then (3 : Int) else 4) ∧ kk ≠ 2 ∧ (kk = 3 ∨ kk = 4) := by
  cases yes <;> simp at h <;> subst h <;> simp

/-- Is it among the first ones? -/
def isIn (pid parts : Int) (l : List PTr) : Bool := l.any fun x => decide (x.pid = pid) && decide (x.parts = parts)
theorem isIn_next {pid parts : Int} {l : List PTr} {q : Nat} {x : PTr} (hx : l[q]? = some x) : isIn pid parts (l.take (q + 1)) = (isIn pid parts (l.take q) || (decide (x.pid = pid) && decide (x.parts = parts))) := by
  unfold isIn
  rw [List.take_add_one, hx, List.any_append]
  simp

set_option maxHeartbeats 40000000 in
theorem ends_any {w : World} {v : Value} {l : List CDeed} (pid0 : Int) (yes crash : Bool) (h : InCDeeds w v l) :
    Calls Tryz.prog 8 #[v, .int .i64 pid0, .bool yes, .bool crash] w (AwakePost13 w) := by
  have HI := hid h
  clear h
  go_enter Tryz.func8, Tryz.ntmps8
  go_wp2_with fail
  refine (made13_any HI.out).mono ?_
  rintro e w1 ⟨c, ll, d, S, SL, SD, C, A, D, k, rfl, hm⟩
  have HM := hid hm
  have HPID := hid (lawPid pid0)
  have hl8 := hm.room.right.len
  clear hm HI
  go_wp2_with fail
  generalize wrap64 (1 + (wrap64 (pid0.tmod 3 + 3)).tmod 3) = pid at HPID ⊢
  refine (coRows_any HM.out.made.trio HM.out.room.right).mono ?_
  rintro e w2 ⟨v2, rfl, hrow2, hb2⟩
  have HN2 := hid hrow2
  have HM2 := hid (HM.out.below hb2)
  obtain ⟨va, vc, rfl⟩ := row_slice hrow2
  clear hb2 hrow2 HM
  go_wp2_with fail
  refine (refRow_any pid (Reads.of_own HN2.out) (by omega)).mono ?_
  rintro e w3 ⟨rfl, hb3⟩
  obtain ⟨t, ht⟩ : ∃ t, rowZ C.rows pid = t := ⟨_, rfl⟩
  obtain ⟨cc, hcc⟩ : ∃ cc, rowC C.rows pid = cc := ⟨_, rfl⟩
  rw [ht, hcc]
  unfold PTr.val
  have hbT : Below w3.heap.size w3 (w3.alloc (.cells #[.int .i64 t.pid, .int .i64 t.epoch, .int .i64 t.state, .int .i64 t.parts, .int .i64 t.last] 28)) := bel_alloc (Below.refl _ _) _
  have HM3 := hid ((HM2.out.below hb3).below hbT)
  have HT3 := hid ((HM2.out.below hb3).made.trio.awayB (Blk.new w3 #[.int .i64 t.pid, .int .i64 t.epoch, .int .i64 t.state, .int .i64 t.parts, .int .i64 t.last] 28) (Nat.le_refl _))
  have hp8 : 1 ≤ pid ∧ pid ≤ 8 := by have := HPID.out; omega
  have HP8 := hid hp8
  clear hb3 hbT HM2 HN2 hp8
  have t1 := HT3.out.blk.cell (i := 1) (v := .int .i64 t.epoch) rfl
  have t2 := HT3.out.blk.cell (i := 2) (v := .int .i64 t.state) rfl
  have HT := hid ht
  have HC := hid hcc
  clear ht hcc
  by_cases hc : cc = 0
  · subst hc
    by_cases hst : t.state = 2
    · have hs1 : decide (t.state = 2) = true := decide_eq_true hst
      have hs2 : (t.state == 2) = true := by simpa using hst
      have hs3 : (t.state != 2) = false := by simpa using hst
      have hto := rowOf_of HC.out HT.out
      have HRO := hid hto
      obtain ⟨kk, hkk⟩ : ∃ kk, (if yes then (3 : Int) else 4) = kk := ⟨_, rfl⟩
      obtain ⟨A1, D1, g1, g2, g3⟩ := end_first HM3.out.room (by have := HM3.out.few; omega) HP8.out hto hst hkk
      have hown1 : AllOwn coName D1 := by
        have h9 := HM3.out.room.good.note_own (it := ⟨1, (TNote.mk kk pid 0).text⟩) (s1 := (foldT C.rows ⟨kk, pid, 0⟩).1) HM3.out.room.room.1 HM3.out.own
        have h8 := g3
        unfold coWrite at h8
        split at h8
        · rename_i h7
          exact absurd (congrArg (fun r => r.2.2.2) h8) h7
        · rw [h8] at h9
          exact h9
      have HOWN := hid hown1
      have hep : t.epoch ≤ 80 := by
        have h9 := (HM3.out.well t (rowOf_mem hto).1).1
        have := HM3.out.few
        omega
      have hep1 : 1 ≤ t.epoch := (HM3.out.room.right.all t (rowOf_mem hto).1).2.1
      have hk80 := HM3.out.few
      have HKK := hid hkk
      have HG1 := hid g1
      have HG2 := hid g2
      clear hto hkk g1 g2 g3 hown1 hst
      go_wp2_with fail
      generalize w3.alloc (.cells #[.int .i64 t.pid, .int .i64 t.epoch, .int .i64 t.state, .int .i64 t.parts, .int .i64 t.last] 28) = w4 at HM3 HT3 t1 t2 ⊢
      generalize w3.heap.size = tb at HT3 t1 t2 ⊢
      refine (coEnd_any (N := 1000) pid t.epoch yes HM3.out.made.trio HM3.out.room.right (fun _ => HM3.out.room.good)).mono ?_
      rintro e w5 ⟨rfl, hto⟩
      rw [HG1.out] at hto ⊢
      obtain ⟨S5, SL5, SD5, hm5, _, hB⟩ := HM3.out.made.call hto
      have HT5 := hid (hB _ _ _ HT3.out)
      have HM5 := hid hm5
      have hrow5 : rowOf (setTr C.rows ⟨pid, t.epoch, kk, t.parts, t.last⟩) pid = some ⟨pid, t.epoch, kk, t.parts, t.last⟩ := rowOf_turn HRO.out rfl
      have HR1 := hid hrow5
      clear hto hm5 hB HM3 HT3 t1 t2 HG1 hrow5 hs1 hs2 hs3
      have hC5 : ({ C with rows := setTr C.rows ⟨pid, t.epoch, kk, t.parts, t.last⟩ } : PCo).rows = setTr C.rows ⟨pid, t.epoch, kk, t.parts, t.last⟩ := rfl
      generalize ({ C with rows := setTr C.rows ⟨pid, t.epoch, kk, t.parts, t.last⟩ } : PCo) = C5 at HM5 hC5
      generalize setTr C.rows ⟨pid, t.epoch, kk, t.parts, t.last⟩ = R1 at HG2 HR1 hC5
      subst hC5
      have t1 := HT5.out.blk.cell (i := 1) (v := .int .i64 t.epoch) rfl
      clear HRO HT HC hl8
      have HNK := hid (not_kk HKK.out)
      go_wp2_with fail
      refine (coEnd_any (N := 1000) pid t.epoch (!yes) HM5.out.trio HG2.out.right (fun _ => HG2.out.good)).mono ?_
      rintro e w6 ⟨rfl, hto⟩
      have h9 := end_other (C := C5) (D := D1) (t := ⟨pid, t.epoch, kk, t.parts, t.last⟩) (HG2.out.ready HP8.out) HR1.out (yes := !yes) HNK.out.1 HNK.out.2.1
      dsimp only at h9
      rw [h9] at hto ⊢
      obtain ⟨S6, SL6, SD6, hm6, _, hB⟩ := HM5.out.call hto
      have HT6 := hid (hB _ _ _ HT5.out)
      have HM6 := hid hm6
      clear hto hm6 hB HM5 HT5 h9 t1
      go_upto_if 78 with fail
      go_cut [9] (fun p wx => EndMid w d C5.rows A1 D1 tb t p wx)
      case first =>
        cases crash with
        | false =>
          go_wp2_with fail
          go_meet
          exact ⟨c, ll, S6, SL6, SD6, C5, rfl, HM6.out, rfl, HT6.out⟩
        | true =>
          go_wp2_with fail
          refine (crash_any d SD6 D1 1000 _ [] _ HM6.out.trio.disk HG2.out.good.wf ⟨rfl, none, 0, rfl, Nat.le_refl _, by decide, fun j u hu => by simp [keepCells] at hu⟩ (fun a m cap e => by cases e)).mono ?_
          rintro e w8 ⟨rfl, hto⟩
          obtain ⟨hcalm, hopen⟩ := HG2.out.good.calmly HOWN.out HG2.out.room.1 []
          rw [hcalm] at hto
          obtain ⟨S8, SL8, SD8, hm8, _, hB⟩ := HM6.out.call (HM6.out.trio.disk_to hto)
          have HM8 := hid hm8
          have HT8 := hid (hB _ _ _ HT6.out)
          have HOPEN := hid hopen
          clear hto hm8 hB hcalm hopen HM6 HT6
          go_wp2_with fail
          refine (coOpen_good (N := 1000) HM8.out.trio.disk HG2.out.good.wf HOPEN.out HG2.out.good).mono ?_
          rintro e w9 ⟨c9, l9, S9, SL9, SD9, rfl, ht9, hfr9, hs9, hsl9, hsd9⟩
          have hsz := HM8.out.bel.size
          have HP : Hid (EndMid w d C5.rows A1 D1 tb t (.pointer (some ⟨c9, 0, none⟩)) w9) := hid (by
            refine ⟨c9, l9, S9, SL9, SD9, PCo.new C5.rows due10, rfl, ⟨ht9, HM8.out.bel.trans (hfr9.to_below hsz (fun k hk h9 => by have := HM8.out.sd k h9; omega)), fun k hk => ?_, fun k hk => ?_, fun k hk => ?_⟩, rfl, HT8.out.blk.fr hfr9 HT8.out.far.sd, ?_⟩
            · have := hs9 k hk; omega
            · have := hsl9 k hk; omega
            · rcases hsd9 k hk with h9 | h9
              · exact HM8.out.sd k h9
              · omega
            · have hlt := HT8.out.far.lt
              refine ⟨by have := hfr9.size; omega, fun h9 => ?_, fun h9 => ?_, fun h9 => ?_⟩
              · have := hs9 _ h9; omega
              · have := hsl9 _ h9; omega
              · rcases hsd9 _ h9 with h9 | h9
                · exact HT8.out.far.sd h9
                · omega)
          clear ht9 hfr9 hs9 hsl9 hsd9 HM8 HT8 HOPEN
          go_wp2_with fail
          go_meet
          exact HP.out
      case rest =>
        obtain ⟨c, ll, S, SL, SD, C, rfl, hm, hC, hT⟩ := hcut
        have HM := hid hm
        have HTB := hid hT
        rw [← hC] at HG2 HR1
        clear hm hT hC HM6 HT6 C5
        have t1 := HTB.out.blk.cell (i := 1) (v := .int .i64 t.epoch) rfl
        go_wp2_with fail
        refine (coEnd_any (N := 1000) pid t.epoch yes HM.out.trio HG2.out.right (fun _ => HG2.out.good)).mono ?_
        rintro e w7 ⟨rfl, hto⟩
        have h9 := end_same (C := C) (D := D1) (t := ⟨pid, t.epoch, kk, t.parts, t.last⟩) (HG2.out.ready HP8.out) HR1.out (yes := yes) HKK.out.symm
        dsimp only at h9
        rw [h9] at hto ⊢
        obtain ⟨S7, SL7, SD7, hm7, _, hB⟩ := HM.out.call hto
        have HT7 := hid (hB _ _ _ HTB.out)
        have HM7 := hid hm7
        clear hto hm7 hB HM HTB h9 t1
        go_wp2_with fail
        refine (coTodo_any HM7.out.trio HG2.out.right).mono ?_
        rintro e w8 ⟨v8, rfl, hrow8, hb8⟩
        have HM8 := hid (HM7.out.below hb8)
        have HT8 := hid (HT7.out.below hb8)
        have HR8 := hid hrow8
        obtain ⟨va, vc, rfl⟩ := row_slice hrow8
        have hin : isIn pid t.parts (todoOf C.rows) = true := by
          unfold isIn
          rw [List.any_eq_true]
          exact ⟨_, todoOf_mem.2 ⟨(rowOf_mem HR1.out).1, HNK.out.2.2⟩, by simp⟩
        have hl8 : (todoOf C.rows).length ≤ 8 := by
          have h9 := HG2.out.right.len
          have h8 := List.length_filter_le (fun x : PTr => !(!decide (x.state = 3 ∨ x.state = 4))) C.rows
          unfold todoOf
          omega
        have HIN := hid hin
        clear hrow8 hb8 HM7 HT7 hin
        generalize todoOf C.rows = td at HR8 HIN hl8 ⊢
        go_wp2_with fail
        go_loopw [23, 22] (fun j b wr => ∃ q : Nat, q ≤ td.length ∧ j = .int .i64 q ∧ b = .bool (isIn pid t.parts (td.take q)) ∧ Below w8.heap.size w8 wr) (fun j _ _ => td.length - (intOf j).toNat)
        case atStart => exact ⟨0, Nat.zero_le _, rfl, rfl, Below.refl _ _⟩
        case round =>
          obtain ⟨q, hq, rfl, rfl, hb⟩ := hrel
          have HB := hid hb
          clear hb
          by_cases hql : q < td.length
          · obtain ⟨x, hx⟩ : ∃ x, td[q]? = some x := ⟨_, List.getElem?_eq_getElem hql⟩
            obtain ⟨g, rfl, a0, _, _, a3, _⟩ := trReads ((Reads.of_own HR8.out).below HB.out) hx
            have b3 := (HT8.out.below HB.out).blk.cell (i := 3) (v := .int .i64 t.parts) rfl
            have hnx := isIn_next (pid := pid) (parts := t.parts) hx
            obtain ⟨xp, xe, xs, xq, xl⟩ := x
            dsimp only at a0 a3 hnx
            have hq0 : (0 : Int) ≤ (q : Int) := by omega
            have hq1 : (q : Int) < (td.length : Int) := by omega
            have HNX := hid hnx
            clear hx hnx
            obtain ⟨b, hb⟩ : ∃ b, isIn pid t.parts (td.take q) = b := ⟨_, rfl⟩
            rw [hb] at HNX ⊢
            clear hb
            cases b with
            | true =>
              have HNB : Hid (isIn pid t.parts (td.take (q + 1)) = true) := hid (by rw [HNX.out]; rfl)
              go_wp2_with fail
              refine wp_region_lex (fun w' => w'.cell? ⟨g, q * 5, none⟩ = some (.int .i64 xp) ∧ w'.cell? ⟨g, q * 5 + 3, none⟩ = some (.int .i64 xq) ∧ w'.cell? ⟨tb, 3, none⟩ = some (.int .i64 t.parts)) [] (by kernel_rfl) (by kernel_rfl) (fun _ _ _ _ _ h => h) (by go_keep) (fun hHeld => ?_)
              iterate 2
                refine lex_take (v := ?_) (by kernel_rfl) (by kernel_rfl) ?_ ?_
                rotate_left
                focus
                  intro w' hSw
                  try dsimp only at hSw
                  go_simp <;> with_reducible rfl
                simp only [Act.put, List.setIfInBounds_toArray, List.set_cons_zero, List.set_cons_succ]
              iterate 17
                refine lex_skip (by kernel_rfl) ?_
                simp only [Act.put, List.setIfInBounds_toArray, List.set_cons_zero, List.set_cons_succ]
              iterate 2
                refine lex_take (v := ?_) (by kernel_rfl) (by kernel_rfl) ?_ ?_
                rotate_left
                focus
                  intro w' hSw
                  try dsimp only at hSw
                  go_simp <;> with_reducible rfl
                simp only [Act.put, List.setIfInBounds_toArray, List.set_cons_zero, List.set_cons_succ]
              refine lex_nil ?_
              clear hHeld
              go_wp2_with fail
              go_roundw
              case rel => exact ⟨q + 1, by omega, by go_num, by rw [HNB.out], HB.out.drew⟩
              case measure => simp [intOf]; omega
            | false =>
              by_cases hp : xp = pid
              · have hp1 : decide (xp = pid) = true := decide_eq_true hp
                have hp2 : (xp == pid) = true := by simpa using hp
                by_cases hq : xq = t.parts
                · have hq3 : decide (xq = t.parts) = true := decide_eq_true hq
                  have hq4 : (xq == t.parts) = true := by simpa using hq
                  have HNB : Hid (isIn pid t.parts (td.take (q + 1)) = true) := hid (by rw [HNX.out, hp1, hq3]; rfl)
                  clear hp hq
                  go_wp2_with fail
                  refine wp_region_lex (fun w' => w'.cell? ⟨g, q * 5, none⟩ = some (.int .i64 xp) ∧ w'.cell? ⟨g, q * 5 + 3, none⟩ = some (.int .i64 xq) ∧ w'.cell? ⟨tb, 3, none⟩ = some (.int .i64 t.parts)) [] (by kernel_rfl) (by kernel_rfl) (fun _ _ _ _ _ h => h) (by go_keep) (fun hHeld => ?_)
                  iterate 21
                    refine lex_take (v := ?_) (by kernel_rfl) (by kernel_rfl) ?_ ?_
                    rotate_left
                    focus
                      intro w' hSw
                      try dsimp only at hSw
                      go_simp <;> with_reducible rfl
                    simp only [Act.put, List.setIfInBounds_toArray, List.set_cons_zero, List.set_cons_succ]
                  refine lex_nil ?_
                  clear hHeld
                  go_wp2_with fail
                  go_roundw
                  case rel => exact ⟨q + 1, by omega, by go_num, by rw [HNB.out], HB.out.drew⟩
                  case measure => simp [intOf]; omega
                · have hq3 : decide (xq = t.parts) = false := decide_eq_false hq
                  have hq4 : (xq == t.parts) = false := by simpa using hq
                  have HNB : Hid (isIn pid t.parts (td.take (q + 1)) = false) := hid (by rw [HNX.out, hp1, hq3]; rfl)
                  clear hp hq
                  go_wp2_with fail
                  refine wp_region_lex (fun w' => w'.cell? ⟨g, q * 5, none⟩ = some (.int .i64 xp) ∧ w'.cell? ⟨g, q * 5 + 3, none⟩ = some (.int .i64 xq) ∧ w'.cell? ⟨tb, 3, none⟩ = some (.int .i64 t.parts)) [] (by kernel_rfl) (by kernel_rfl) (fun _ _ _ _ _ h => h) (by go_keep) (fun hHeld => ?_)
                  iterate 21
                    refine lex_take (v := ?_) (by kernel_rfl) (by kernel_rfl) ?_ ?_
                    rotate_left
                    focus
                      intro w' hSw
                      try dsimp only at hSw
                      go_simp <;> with_reducible rfl
                    simp only [Act.put, List.setIfInBounds_toArray, List.set_cons_zero, List.set_cons_succ]
                  refine lex_nil ?_
                  clear hHeld
                  go_wp2_with fail
                  go_roundw
                  case rel => exact ⟨q + 1, by omega, by go_num, by rw [HNB.out], HB.out.drew⟩
                  case measure => simp [intOf]; omega
              · have hp1 : decide (xp = pid) = false := decide_eq_false hp
                have hp2 : (xp == pid) = false := by simpa using hp
                have HNB : Hid (isIn pid t.parts (td.take (q + 1)) = false) := hid (by rw [HNX.out, hp1]; rfl)
                clear hp
                go_wp2_with fail
                refine wp_region_lex (fun w' => w'.cell? ⟨g, q * 5, none⟩ = some (.int .i64 xp) ∧ w'.cell? ⟨g, q * 5 + 3, none⟩ = some (.int .i64 xq) ∧ w'.cell? ⟨tb, 3, none⟩ = some (.int .i64 t.parts)) [] (by kernel_rfl) (by kernel_rfl) (fun _ _ _ _ _ h => h) (by go_keep) (fun hHeld => ?_)
                iterate 10
                  refine lex_take (v := ?_) (by kernel_rfl) (by kernel_rfl) ?_ ?_
                  rotate_left
                  focus
                    intro w' hSw
                    try dsimp only at hSw
                    go_simp <;> with_reducible rfl
                  simp only [Act.put, List.setIfInBounds_toArray, List.set_cons_zero, List.set_cons_succ]
                iterate 8
                  refine lex_skip (by kernel_rfl) ?_
                  simp only [Act.put, List.setIfInBounds_toArray, List.set_cons_zero, List.set_cons_succ]
                iterate 3
                  refine lex_take (v := ?_) (by kernel_rfl) (by kernel_rfl) ?_ ?_
                  rotate_left
                  focus
                    intro w' hSw
                    try dsimp only at hSw
                    go_simp <;> with_reducible rfl
                  simp only [Act.put, List.setIfInBounds_toArray, List.set_cons_zero, List.set_cons_succ]
                refine lex_nil ?_
                clear hHeld
                go_wp2_with fail
                go_roundw
                case rel => exact ⟨q + 1, by omega, by go_num, by rw [HNB.out], HB.out.drew⟩
                case measure => simp [intOf]; omega
          · obtain rfl : q = td.length := by omega
            rw [List.take_length, HIN.out]
            have HM9 := hid (HM8.out.below HB.out)
            have HT9 := hid (HT8.out.below HB.out)
            clear HM8 HT8 HB HR8 HIN
            go_wp2_with fail
            refine (coComplete_any (N := 1000) pid HM9.out.trio HG2.out.right (fun _ => HG2.out.good)).mono ?_
            rintro e w10 ⟨rfl, hto⟩
            obtain ⟨A2, D2, g1, g2⟩ := complete_first HG2.out (by omega) HP8.out HR1.out HNK.out.2.2 (by dsimp only; omega)
            dsimp only at g1 g2
            rw [g1] at hto ⊢
            obtain ⟨S10, SL10, SD10, hm10, _, hB⟩ := HM9.out.call hto
            have HT10 := hid (hB _ _ _ HT9.out)
            have HM10 := hid hm10
            have HG10 := hid g2
            have HR10 := hid (rowOf_turn (u := ⟨pid, t.epoch + 1, 1, 0, kk⟩) HR1.out rfl)
            clear hto hm10 hB g1 g2 HM9 HT9 HG2
            have hC10 : ({ C with rows := setTr C.rows ⟨pid, t.epoch + 1, 1, 0, kk⟩ } : PCo).rows = setTr C.rows ⟨pid, t.epoch + 1, 1, 0, kk⟩ := rfl
            generalize ({ C with rows := setTr C.rows ⟨pid, t.epoch + 1, 1, 0, kk⟩ } : PCo) = C10 at HM10 hC10
            rw [← hC10] at HG10 HR10
            clear hC10
            go_wp2_with fail
            refine (coComplete_any (N := 1000) pid HM10.out.trio HG10.out.right (fun _ => HG10.out.good)).mono ?_
            rintro e w11 ⟨rfl, hto⟩
            rw [complete_no (HG10.out.ready HP8.out) HP8.out HR10.out rfl] at hto ⊢
            obtain ⟨S11, SL11, SD11, hm11, _, hB⟩ := HM10.out.call hto
            have HT11 := hid (hB _ _ _ HT10.out)
            have HM11 := hid hm11
            have t1 := HT11.out.blk.cell (i := 1) (v := .int .i64 t.epoch) rfl
            clear hto hm11 hB HM10 HT10
            go_wp2_with fail
            refine (coEnd_any (N := 1000) pid t.epoch yes HM11.out.trio HG10.out.right (fun _ => HG10.out.good)).mono ?_
            rintro e w12 ⟨rfl, hto⟩
            have hE : rowE C10.rows pid t.epoch = 8 := rowE_else HR10.out (by dsimp only; omega)
            rw [fin_over (HG10.out.ready HP8.out) hE (by rw [rowZ_of HR10.out]; exact ⟨by dsimp only; omega, rfl, HKK.out.symm⟩)] at hto ⊢
            obtain ⟨S12, SL12, SD12, hm12, _, hB⟩ := HM11.out.call hto
            have HT12 := hid (hB _ _ _ HT11.out)
            have HM12 := hid hm12
            clear t1
            have t1 := HT12.out.blk.cell (i := 1) (v := .int .i64 t.epoch) rfl
            have HE := hid hE
            clear hto hm12 hB HM11 HT11 hE
            go_wp2_with fail
            refine (coEnd_any (N := 1000) pid t.epoch (!yes) HM12.out.trio HG10.out.right (fun _ => HG10.out.good)).mono ?_
            rintro e w13 ⟨rfl, hto⟩
            rw [fin_fenced (HG10.out.ready HP8.out) HE.out (yes := !yes) (by rw [rowZ_of HR10.out]; exact fun h9 => HNK.out.1 h9.2.2)] at hto ⊢
            obtain ⟨S13, SL13, SD13, hm13, _, hB⟩ := HM12.out.call hto
            have hT13 := hB _ _ _ HT12.out
            have HM13 := hid hm13
            clear t1
            have t1 := hT13.blk.cell (i := 1) (v := .int .i64 t.epoch) rfl
            clear hto hm13 hB HM12 HT12 hT13
            have hn1 : (t.epoch + 1 == wrap64 (t.epoch + 1)) = true := by rw [IntWalk.wrap64_in _ (by omega)]; simp
            have hn2 : decide (t.epoch + 1 = wrap64 (t.epoch + 1)) = true := by rw [IntWalk.wrap64_in _ (by omega)]; simp
            go_wp2_with fail
            refine (awake13_any _).mono ?_
            rintro e w14 ⟨rfl, hb14⟩
            have HB9 := hid (bel_next HM13.out.bel hb14)
            clear hb14
            go_wp2_with fail
            go_ret
            exact ⟨rfl, HB9.out⟩
    · have hs1 : decide (t.state = 2) = false := decide_eq_false hst
      have hs2 : (t.state == 2) = false := by simpa using hst
      have hs3 : (t.state != 2) = true := by simpa using hst
      go_wp2_with fail
      refine (awake13_any _).mono ?_
      rintro e w4 ⟨rfl, hb4⟩
      have HB9 := hid (bel_next HM3.out.made.bel hb4)
      clear hb4
      go_wp2_with fail
      go_ret
      exact ⟨rfl, HB9.out⟩
  · have hz1 : (cc != 0) = true := by simpa using hc
    have hz2 : decide (cc = 0) = false := decide_eq_false hc
    have hz3 : (cc == 0) = false := by simpa using hc
    go_wp2_with fail
    refine (awake13_any _).mono ?_
    rintro e w4 ⟨rfl, hb4⟩
    have HB9 := hid (bel_next HM3.out.made.bel hb4)
    clear hb4
    go_wp2_with fail
    go_ret
    exact ⟨rfl, HB9.out⟩
end Go.Proofs.YtbnefpdjcbegpaaGreatDoor
