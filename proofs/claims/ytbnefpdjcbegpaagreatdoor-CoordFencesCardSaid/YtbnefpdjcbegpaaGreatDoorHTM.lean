/-
  A coordinator's deeds on a disk with room, and rows that stay behind calls on a coordinator. No conditions.
  Chapter 13's laws: made: the walk. No conditions but deeds that read.
  Rows, and files, that are the same are told to be: the walks. Conditions: lists that read.
  CoordFences, plain: a call of an epoch that is not the producer's own does nothing. No conditions.
-/
import Derived.Test.YtbnefpdjcbegpaaGreatDoorHRM
import Derived.Test.YtbnefpdjcbegpaaGreatDoorHQM
import Derived.Test.YtbnefpdjcbegpaaGreatDoorHSM
import Derived.Test.YtbnefpdjcbegpaaGreatDoorGCM
import Derived.BigQuiet
import Derived.Deep.QuietTactic
import Derived.Test.YtbnefpdjcbegpaaGreatDoorHNM
import Derived.Laws.BitsLemmas
set_option maxRecDepth 100000
namespace Go.Proofs.YtbnefpdjcbegpaaGreatDoor
open Go.RowKit

section
variable {C : PCo} {L : PLog} {D : PDisk} {pid : Int}

theorem init_now : (C.init L D pid).C.now = C.now := by
  unfold PCo.init
  split
  · rfl
  · split
    · rfl
    · dsimp only
      split <;> rfl

theorem add_now {epoch parts : Int} : (C.add L D pid epoch parts).C.now = C.now := by
  unfold PCo.add
  split
  · rfl
  · split
    · rfl
    · split
      · rfl
      · split
        · rfl
        · split
          · rfl
          · dsimp only
            split <;> rfl

theorem fin_now {epoch : Int} {yes : Bool} : (C.fin L D pid epoch yes).C.now = C.now := by
  unfold PCo.fin
  dsimp only
  generalize (if yes = true then (3 : Int) else 4) = k
  split
  · rfl
  · split
    · rfl
    · split
      · rfl
      · split
        · rfl
        · split <;> rfl

theorem complete_now : (C.complete L D pid).C.now = C.now := by
  unfold PCo.complete
  split
  · rfl
  · dsimp only
    split <;> rfl

theorem coDoes_now (x : CDeed) (ep : Int) : (C.does L D x ep).C.now = C.now ∨ (C.does L D x ep).C.now = C.now + 1 := by
  unfold PCo.does
  split
  · exact .inl init_now
  · split
    · exact .inl add_now
    · split
      · exact .inl fin_now
      · split
        · exact .inl complete_now
        · split
          · exact .inr rfl
          · exact .inl rfl
end

theorem CoRoom.wrote {k : Nat} {C : PCo} {A : ALog} {D : PDisk} {pid : Int} {r : CRes} (h : CoRoom k C.rows A D) (hk : k ≤ 82) (hw : CWrote C A.toP D pid r) : ∃ A', r.L = A'.toP ∧ CoRoom (k + 1) r.C.rows A' r.D := by
  rcases hw with ⟨h1, h2, h3⟩ | ⟨n, _, h1, h2, h3⟩
  · rw [h1, h2, h3]
    exact ⟨A, rfl, h.more⟩
  · rw [h1, h2, h3]
    by_cases hc : (foldT C.rows n).2 = 0
    · obtain ⟨A', D', g1, g2⟩ := h.write hk (s1 := (foldT C.rows n).1) (n := n) (by rw [← hc])
      rw [g1]
      exact ⟨A', rfl, g2⟩
    · unfold coWrite
      rw [if_pos hc]
      exact ⟨A, rfl, h.more⟩

theorem CoRoom.own {k : Nat} {C : PCo} {A : ALog} {D : PDisk} {pid : Int} {r : CRes} (h : CoRoom k C.rows A D) (ho : AllOwn coName D) (hw : CWrote C A.toP D pid r) : AllOwn coName r.D := by
  rcases hw with ⟨_, _, h3⟩ | ⟨n, _, _, _, h3⟩
  · rw [h3]; exact ho
  · rw [h3]
    unfold coWrite
    split
    · exact ho
    · exact h.good.note_own h.room.1 ho

/-- Rows that may be, behind so many notes. -/
def TWell (k : Nat) (l : List PTr) : Prop := ∀ t ∈ l, t.epoch ≤ k ∧ (1 ≤ t.state ∧ t.state ≤ 4) ∧ (t.state = 1 → t.parts = 0)

theorem TWell.more {k : Nat} {l : List PTr} (h : TWell k l) : TWell (k + 1) l := fun t ht => ⟨by have := (h t ht).1; omega, (h t ht).2⟩

theorem TWell.fold {k : Nat} {l l1 : List PTr} {n : TNote} (h : TWell k l) (hl : TRight l) (hf : foldT l n = (l1, 0)) : TWell (k + 1) l1 := by
  have hF := foldT_ok hl hf
  intro t ht
  have h1 := hF.right.rowOf ht
  by_cases hp : t.pid = n.pid
  · rw [hp] at h1
    rcases hF.own with ⟨_, _, h2⟩ | ⟨s, u, h2, h3, _, h4⟩
    · rw [h1] at h2
      injection h2 with h2
      subst h2
      exact ⟨by dsimp only; omega, ⟨(by decide : (1 : Int) ≤ 1), (by decide : (1 : Int) ≤ 4)⟩, fun _ => rfl⟩
    · rw [h1] at h4
      injection h4 with h4
      subst h4
      obtain ⟨g1, g2, g3⟩ := h s (rowOf_mem h2).1
      have g4 := (turn_pid h3).2.2
      refine ⟨by omega, ?_⟩
      unfold PTr.turn at h3
      split at h3
      · split at h3
        · rename_i h5
          injection h3 with h3
          subst h3
          exact ⟨by dsimp only; omega, fun _ => rfl⟩
        · cases h3
      · split at h3
        · split at h3
          · injection h3 with h3
            subst h3
            exact ⟨⟨(by decide : (1 : Int) ≤ 2), (by decide : (2 : Int) ≤ 4)⟩, fun h9 => absurd h9 (show ¬ ((2 : Int) = 1) by decide)⟩
          · cases h3
        · split at h3
          · rename_i h6
            split at h3
            · injection h3 with h3
              subst h3
              exact ⟨by dsimp only; omega, fun h9 => by dsimp only at h9; omega⟩
            · cases h3
          · split at h3
            · injection h3 with h3
              subst h3
              exact ⟨⟨(by decide : (1 : Int) ≤ 1), (by decide : (1 : Int) ≤ 4)⟩, fun _ => rfl⟩
            · cases h3
  · have h2 := (rowOf_mem ((hF.other _ hp).symm.trans h1)).1
    exact h.more t h2

theorem CoRoom.well {k : Nat} {C : PCo} {A : ALog} {D : PDisk} {pid : Int} {r : CRes} (h : CoRoom k C.rows A D) (hk : k ≤ 82) (hw : TWell k C.rows) (hc : CWrote C A.toP D pid r) : TWell (k + 1) r.C.rows := by
  rcases hc with ⟨h1, _, _⟩ | ⟨n, _, h1, _, _⟩
  · rw [h1]; exact hw.more
  · rw [h1]
    by_cases hc : (foldT C.rows n).2 = 0
    · have hf : foldT C.rows n = ((foldT C.rows n).1, 0) := by rw [← hc]
      obtain ⟨A', D', g1, _⟩ := h.write hk hf
      rw [g1]
      exact hw.fold h.right hf
    · unfold coWrite
      rw [if_pos hc]
      exact hw.more

/-- A row of the caller's own that is none of theirs. -/
structure Away (w : World) (S SL SD : Nat → Prop) (base : Nat) (e : TypeId) (size : Nat) (v : Value) (n : Nat) (xs : List Value) : Prop where
  row : w.ownsRow base e size v n xs
  far : ∀ k, v.ownBlock = some k → Aloof k w S SL SD

/-- A block of the caller's own that is none of theirs. -/
structure AwayB (w : World) (S SL SD : Nat → Prop) (b : Nat) (c : Array Value) (T : TypeId) : Prop where
  blk : Blk w b c T
  far : Aloof b w S SL SD

section
variable {w wr w0 w1 w2 : World} {c l d : Nat} {S SL SD : Nat → Prop} {C C2 : PCo} {L L2 : PLog} {D D2 : PDisk} {base : Nat} {e : TypeId} {size : Nat} {v : Value} {n : Nat} {xs : List Value}

theorem own_same (hr : w.ownsRow base e size v n xs) (hk : ∀ k, v.ownBlock = some k → w2.heap[k]? = w.heap[k]?) : w2.ownsRow base e size v n xs := by
  refine ⟨hr.1, ?_⟩
  rcases hr.2 with h2 | ⟨g, c, cur, hv, hg, hh, r⟩
  · exact .inl h2
  · exact .inr ⟨g, c, cur, hv, hg, (hk g (by rw [hv]; rfl)).trans hh, r⟩

theorem Away.below (h : Away w S SL SD base e size v n xs) (hb : Below w.heap.size w w1) : Away w1 S SL SD base e size v n xs :=
  ⟨own_bel h.row hb, fun k hk => (h.far k hk).below hb⟩

/-- A row that was made behind them. -/
theorem Trio.away {X : Thing PCo} (h : Trio X w0 l d S SL SD C L D) (hr : w.ownsRow w0.heap.size e size v n xs) : Away w S SL SD 0 e size v n xs :=
  ⟨own_base hr (Nat.zero_le _), fun k hk => h.aloof (hr.lt k hk).1 (hr.lt k hk).2⟩

theorem AwayB.below {b : Nat} {cs : Array Value} {T : TypeId} (h : AwayB w S SL SD b cs T) (hb : Below w.heap.size w w1) : AwayB w1 S SL SD b cs T :=
  ⟨h.blk.below' hb, h.far.below hb⟩

/-- A block that was made behind them. -/
theorem Trio.awayB {X : Thing PCo} (h : Trio X w0 l d S SL SD C L D) {b : Nat} {cs : Array Value} {T : TypeId} (hr : Blk w b cs T) (hb : w0.heap.size ≤ b) : AwayB w S SL SD b cs T :=
  ⟨hr, h.aloof hb hr.lt⟩

/-- A call on a coordinator: rows of the caller's own stay. -/
theorem CoMade.call (h : CoMade w wr c l d S SL SD C L D) (hto : TrioTo (coThing c l) wr w2 l d S SL SD C2 L2 D2) :
    ∃ S2 SL2 SD2, CoMade w w2 c l d S2 SL2 SD2 C2 L2 D2 ∧ (∀ base e size v n xs, Away wr S SL SD base e size v n xs → Away w2 S2 SL2 SD2 base e size v n xs) ∧ ∀ b cs T, AwayB wr S SL SD b cs T → AwayB w2 S2 SL2 SD2 b cs T := by
  have ht : TrioIn (coThing c l) w wr l d S SL SD C L D := ⟨h.trio, h.bel, h.s, h.sl, h.sd⟩
  obtain ⟨S2, SL2, SD2, a, b⟩ := ht.to hto
  exact ⟨S2, SL2, SD2, ⟨a.trio, a.bel, a.s, a.sl, a.sd⟩, fun base e size v n xs h9 => ⟨own_same h9.row (fun k hk => (b k (h9.far k hk)).2), fun k hk => (b k (h9.far k hk)).1⟩, fun g cs T h9 => ⟨(b g h9.far).2.trans h9.blk, (b g h9.far).1⟩⟩
end

/-- Deeds of the call's own, read. -/
theorem OutCDeeds.at {w : World} {base : Nat} {v : Value} {q : List CCell} (h : w.ownsRow base 49 7 v q.length (cdsCells q)) {k : Nat} {x : CCell} (hx : q[k]? = some x) :
    ∃ g cap, v = .slice (some ⟨g, 0, none⟩) q.length cap ∧ g < w.heap.size ∧ ∀ r u, (cdCells x.d x.K)[r]? = some u → w.cell? ⟨g, k * 7 + r, none⟩ = some u := by
  have hk : k < q.length := (List.getElem?_eq_some_iff.1 hx).1
  rcases Joins.ownsRow_forms h with ⟨_, hz⟩ | ⟨g, cap, rfl⟩
  · omega
  · refine ⟨g, cap, rfl, (h.lt g rfl).2, fun r u hu => ?_⟩
    have hr7 : r < 7 := (List.getElem?_eq_some_iff.1 hu).1
    rw [h.cellAt (k * 7 + r) (by omega), cds_at q k x hx r hr7]
    exact hu

theorem inRow_below13 {w w' : World} {v : Value} {n size : Nat} {xs : List Value} (h : InRow w v n size xs) (hb : Below w.heap.size w w') : InRow w' v n size xs := by
  obtain ⟨h1, ad, cap, h2, h3, h4, h5⟩ := h
  refine ⟨h1, ad, cap, h2, h3, h4, fun j u hu => ?_⟩
  obtain ⟨a, ha, hc⟩ := h5 j u hu
  exact ⟨a, ha, (hb.cell (p := a.add j) (World.block_lt_of_cell? w _ hc)).trans hc⟩

theorem InCDeeds.below {w w' : World} {v : Value} {l : List CDeed} (h : InCDeeds w v l) (hb : Below w.heap.size w w') : InCDeeds w' v l := by
  obtain ⟨q, h1, h2, h3⟩ := h
  exact ⟨q, h1, inRow_below13 h2 hb, fun x hx => ⟨inRow_below13 (h3 x hx).1 hb, (h3 x hx).2⟩⟩
end Go.Proofs.YtbnefpdjcbegpaaGreatDoor

namespace Go.Proofs.YtbnefpdjcbegpaaGreatDoor
open Go.RowKit

/-- A coordinator behind deeds, and its disk. -/
structure MadeCo (w wr : World) (c l d : Nat) (S SL SD : Nat → Prop) (C : PCo) (A : ALog) (D : PDisk) (k : Nat) : Prop where
  made : CoMade w wr c l d S SL SD C A.toP D
  room : CoRoom k C.rows A D
  own : AllOwn coName D
  well : TWell k C.rows
  few : k ≤ 80
  now0 : 0 ≤ C.now
  now1 : C.now ≤ 80 + k

theorem MadeCo.below {w wr w2 : World} {c l d : Nat} {S SL SD : Nat → Prop} {C : PCo} {A : ALog} {D : PDisk} {k : Nat} (h : MadeCo w wr c l d S SL SD C A D k) (hb : Below wr.heap.size wr w2) : MadeCo w w2 c l d S SL SD C A D k :=
  ⟨h.made.below hb, h.room, h.own, h.well, h.few, h.now0, h.now1⟩

/-- A call that leaves it as it is. -/
theorem MadeCo.same {w wr w2 : World} {c l d : Nat} {S SL SD : Nat → Prop} {C : PCo} {A : ALog} {D : PDisk} {k : Nat} (h : MadeCo w wr c l d S SL SD C A D k) (hto : TrioTo (coThing c l) wr w2 l d S SL SD C A.toP D) :
    ∃ S2 SL2 SD2, MadeCo w w2 c l d S2 SL2 SD2 C A D k ∧ (∀ base e size v n xs, Away wr S SL SD base e size v n xs → Away w2 S2 SL2 SD2 base e size v n xs) ∧ ∀ b cs T, AwayB wr S SL SD b cs T → AwayB w2 S2 SL2 SD2 b cs T := by
  obtain ⟨S2, SL2, SD2, a, b⟩ := h.made.call hto
  exact ⟨S2, SL2, SD2, ⟨a, h.room, h.own, h.well, h.few, h.now0, h.now1⟩, b⟩

theorem MadeCo.wf {w wr : World} {c l d : Nat} {S SL SD : Nat → Prop} {C : PCo} {A : ALog} {D : PDisk} {k : Nat} (h : MadeCo w wr c l d S SL SD C A D k) : D.WF 1000 := h.room.good.wf

def MadePost13 (w : World) (e : Ending) (w' : World) : Prop :=
  ∃ (c l d : Nat) (S SL SD : Nat → Prop) (C : PCo) (A : ALog) (D : PDisk) (k : Nat), e = .returned (.tuple #[.pointer (some ⟨c, 0, none⟩), .pointer (some ⟨d, 0, none⟩)]) ∧ MadeCo w w' c l d S SL SD C A D k

def MadeRel (w : World) (c l d : Nat) (v : Value) (q : List CCell) (j : Value) (wr : World) : Prop :=
  ∃ (k : Nat) (C : PCo) (A : ALog) (D : PDisk) (S SL SD : Nat → Prop), k ≤ q.length ∧ j = .int .i64 k ∧ MadeCo w wr c l d S SL SD C A D k ∧
    Away wr S SL SD 0 49 7 v q.length (cdsCells q)

set_option maxHeartbeats 4000000 in
theorem made13_any {w : World} {v : Value} {l : List CDeed} (h : InCDeeds w v l) : Calls Tryz.prog 9 #[v] w (MadePost13 w) := by
  have HI := hid h
  clear h
  go_enter Tryz.func9, Tryz.ntmps9
  go_wp2_with fail
  refine (fresh13_any w).mono ?_
  rintro e w1 ⟨c, ll, d, S, SL, SD, rfl, hm⟩
  have HM := hid hm
  clear hm
  go_wp2_with fail
  refine (few13_any (HI.out.below HM.out.bel)).mono ?_
  rintro e w2 ⟨v1, rfl, ⟨q, hql, hrow, hall⟩, hb2⟩
  have HM2 := hid (HM.out.below hb2)
  have HROW := hid (HM.out.trio.away hrow)
  have HALL : Hid (∀ x ∈ q, (∃ ka kn kc, x.K = .slice ka kn kc)) := hid (fun x hx => by
    obtain ⟨⟨_, ka, kc, hK, _⟩, _⟩ := hall x hx
    exact ⟨ka, _, kc, hK⟩)
  obtain ⟨va, vc, rfl⟩ := row_slice hrow
  have hq80 : q.length ≤ 80 := by
    have h9 := congrArg List.length hql
    unfold fewC at h9
    rw [List.length_map, List.length_map, List.length_take] at h9
    omega
  clear hrow hall hb2 HI HM hql
  go_wp2_with fail
  go_loopw [6] (fun j wr => MadeRel w c ll d (.slice va q.length vc) q j wr) (fun j _ => q.length - (intOf j).toNat)
  case atStart => exact ⟨0, ⟨[], due0, 0⟩, aC, dC, _, _, _, by omega, rfl, ⟨HM2.out, co_room, (fun f hf => by cases hf), (fun t ht => by cases ht), by omega, (by decide : (0 : Int) ≤ 0), (by decide : (0 : Int) ≤ 80 + 0)⟩, HROW.out⟩
  case round =>
    clear HM2 HROW
    obtain ⟨k, C, A, D, S, SL, SD, hk, rfl, hm, hrow⟩ := hrel
    have HM := hid hm
    have HROW := hid hrow
    clear hm hrow
    by_cases hlt : k < q.length
    · obtain ⟨x, hx⟩ : ∃ x, q[k]? = some x := ⟨_, List.getElem?_eq_getElem hlt⟩
      obtain ⟨ka, kn, kc, hK⟩ := HALL.out x (List.mem_of_getElem? hx)
      obtain ⟨xd, xK⟩ := x
      simp only at hK
      subst hK
      obtain ⟨g, cap, hve, hgl, hcells⟩ := OutCDeeds.at HROW.out.row hx
      injection hve with e1 e2 e3
      subst e1 e3
      have d0 := hcells 0 _ rfl
      have d1 := hcells 1 _ rfl
      have d2 := hcells 2 _ rfl
      have d3 := hcells 3 _ rfl
      have d4 := hcells 4 _ rfl
      have d5 := hcells 5 _ rfl
      have d6 := hcells 6 _ rfl
      simp only [Nat.add_zero] at d0
      clear hx hcells e2
      go_wp2_with fail
      refine (coDoes_any (N := 1000) xd ka kn kc HM.out.made.trio HM.out.room.right (fun _ => HM.out.room.good) ⟨HM.out.now0, by have := HM.out.now1; have := HM.out.few; omega⟩).mono ?_
      rintro e w6 ⟨rfl, hto⟩
      clear d0 d1 d2 d3 d4 d5 d6
      obtain ⟨S6, SL6, SD6, hm6, haw, _⟩ := HM.out.made.call hto
      have HRD6 := hid (haw _ _ _ _ _ _ HROW.out)
      obtain ⟨A6, hA6, hg6⟩ := HM.out.room.wrote (by omega) (coDoes_or (x := xd) (ep := aimE xd C.rows))
      have hown6 := HM.out.room.own HM.out.own (coDoes_or (x := xd) (ep := aimE xd C.rows))
      have hwell6 := HM.out.room.well (by omega) HM.out.well (coDoes_or (x := xd) (ep := aimE xd C.rows))
      have hnow := coDoes_now (C := C) (L := A.toP) (D := D) xd (aimE xd C.rows)
      clear hto haw
      generalize C.does A.toP D xd (aimE xd C.rows) = r at hm6 hA6 hg6 hown6 hwell6 hnow
      obtain ⟨C6, L6, D6, n6, c6⟩ := r
      dsimp only at hm6 hA6 hg6 hown6 hwell6 hnow
      subst hA6
      have HM6 : Hid (MadeCo w w6 c ll d S6 SL6 SD6 C6 A6 D6 (k + 1)) := hid ⟨hm6, hg6, hown6, hwell6, by omega, by have := HM.out.now0; omega, by have := HM.out.now1; omega⟩
      clear hm6 hg6 hown6 hwell6 hnow HM HROW
      go_wp2_with fail
      go_roundw
      case rel => exact ⟨k + 1, C6, A6, D6, S6, SL6, SD6, by omega, by go_num, HM6.out, HRD6.out⟩
      case measure => simp [intOf]; omega
    · obtain rfl : k = q.length := by omega
      clear hlt HALL HROW
      go_wp2_with fail
      go_ret2
      exact ⟨c, ll, d, S, SL, SD, C, A, D, _, rfl, HM.out⟩
end Go.Proofs.YtbnefpdjcbegpaaGreatDoor

namespace Go.Proofs.YtbnefpdjcbegpaaGreatDoor
open Go.RowKit

def DrewT (w : World) (b : Bool) (e : Ending) (w' : World) : Prop := e = .returned (.bool b) ∧ ∃ n, w' = w.drewN n

theorem Reads.form13 {w : World} {v : Value} {n size : Nat} {xs : List Value} (h : Reads w v n size xs) : ∃ ad cap, v = .slice ad n cap := by
  obtain ⟨_, ad, cap, e, _⟩ := h
  exact ⟨ad, cap, e⟩

theorem fileCells_on : ∀ (l : List PFile) (k : Nat) (x : PFile), l[k]? = some x → (fileCells l)[k * 3]? = some (.string (bs x.name)) ∧ (fileCells l)[k * 3 + 1]? = some (.string (bs x.sure)) ∧ (fileCells l)[k * 3 + 2]? = some (.string (bs x.loose))
  | [], _, _, h => by simp at h
  | y :: l, 0, x, h => by
    simp at h
    subst h
    exact ⟨rfl, rfl, rfl⟩
  | y :: l, k + 1, x, h => by
    have e : fileCells (y :: l) = [.string (bs y.name), .string (bs y.sure), .string (bs y.loose)] ++ fileCells l := rfl
    obtain ⟨a, b, c⟩ := fileCells_on l k x (by simpa using h)
    rw [e]
    refine ⟨?_, ?_, ?_⟩
    · rw [List.getElem?_append_right (by simp; omega), show (k + 1) * 3 - [Value.string (bs y.name), .string (bs y.sure), .string (bs y.loose)].length = k * 3 by simp; omega]; exact a
    · rw [List.getElem?_append_right (by simp; omega), show (k + 1) * 3 + 1 - [Value.string (bs y.name), .string (bs y.sure), .string (bs y.loose)].length = k * 3 + 1 by simp; omega]; exact b
    · rw [List.getElem?_append_right (by simp; omega), show (k + 1) * 3 + 2 - [Value.string (bs y.name), .string (bs y.sure), .string (bs y.loose)].length = k * 3 + 2 by simp; omega]; exact c

theorem fileReads {w : World} {ad : Option Addr} {n cap : Nat} {l : List PFile} (h : Reads w (.slice ad n cap) l.length 3 (fileCells l)) {k : Nat} {x : PFile} (hx : l[k]? = some x) :
    ∃ g, ad = some ⟨g, 0, none⟩ ∧ w.cell? ⟨g, k * 3, none⟩ = some (.string (bs x.name)) ∧ w.cell? ⟨g, k * 3 + 1, none⟩ = some (.string (bs x.sure)) ∧ w.cell? ⟨g, k * 3 + 2, none⟩ = some (.string (bs x.loose)) := by
  obtain ⟨_, ad', cap', e, h2⟩ := h
  injection e with e _ _
  subst e
  obtain ⟨e0, e1, e2⟩ := fileCells_on l k x hx
  obtain ⟨g, rfl, c0⟩ := h2 _ _ e0
  refine ⟨g, rfl, c0, ?_, ?_⟩
  · obtain ⟨_, h9, c⟩ := h2 _ _ e1
    injection h9 with h9; injection h9 with h9; subst h9; exact c
  · obtain ⟨_, h9, c⟩ := h2 _ _ e2
    injection h9 with h9; injection h9 with h9; subst h9; exact c

set_option maxHeartbeats 1000000 in
theorem sameTr_eq {w : World} {va vb : Value} {a : List PTr} (ha : Reads w va a.length 5 (trCells a)) (hb : Reads w vb a.length 5 (trCells a)) (la : a.length ≤ 1000000) :
    Calls Tryz.prog 18 #[va, vb] w (DrewT w true) := by
  obtain ⟨ada, capa, rfl⟩ := ha.form13
  obtain ⟨adb, capb, rfl⟩ := hb.form13
  have HA := hid ha
  have HB := hid hb
  clear ha hb
  have hne : ((a.length : Int) != (a.length : Int)) = false := by simp
  go_enter Tryz.func18, Tryz.ntmps18
  go_wp2_with fail
  go_loopw [5] (fun c wr => ∃ (k n : Nat), k ≤ a.length ∧ c = .int .i64 k ∧ wr = w.drewN n) (fun c _ => a.length - (intOf c).toNat)
  case atStart => exact ⟨0, 0, by omega, rfl, rfl⟩
  case round =>
    obtain ⟨k, n, hk, rfl, rfl⟩ := hrel
    by_cases hlt : k < a.length
    · obtain ⟨x, hx⟩ : ∃ x, a[k]? = some x := ⟨_, List.getElem?_eq_getElem hlt⟩
      obtain ⟨ga, rfl, a0, a1, a2, a3, a4⟩ := trReads HA.out hx
      obtain ⟨gb, rfl, b0, b1, b2, b3, b4⟩ := trReads HB.out hx
      clear hx
      have hk0 : (0 : Int) ≤ (k : Int) := Int.natCast_nonneg _
      have hk1 : (k : Int) < (a.length : Int) := by omega
      obtain ⟨x1, x2, x3, x4, x5⟩ := x
      dsimp only at a0 a1 a2 a3 a4 b0 b1 b2 b3 b4
      go_wp2_with fail
      go_quiet (fail)
      go_wp2_with fail
      go_roundw
      case rel => exact ⟨k + 1, n + nq, by omega, by go_num, rfl⟩
      case measure => simp [intOf]; omega
    · obtain rfl : k = a.length := by omega
      go_wp2_with fail
      go_ret
      exact ⟨rfl, n, rfl⟩

set_option maxHeartbeats 1000000 in
theorem sameFiles_eq {w : World} {va vb : Value} {a : List PFile} (ha : Reads w va a.length 3 (fileCells a)) (hb : Reads w vb a.length 3 (fileCells a)) (la : a.length ≤ 1000000) :
    Calls Tryz.prog 19 #[va, vb] w (DrewT w true) := by
  obtain ⟨ada, capa, rfl⟩ := ha.form13
  obtain ⟨adb, capb, rfl⟩ := hb.form13
  have HA := hid ha
  have HB := hid hb
  clear ha hb
  have hne : ((a.length : Int) != (a.length : Int)) = false := by simp
  go_enter Tryz.func19, Tryz.ntmps19
  go_wp2_with fail
  go_loopw [5] (fun c wr => ∃ (k n : Nat), k ≤ a.length ∧ c = .int .i64 k ∧ wr = w.drewN n) (fun c _ => a.length - (intOf c).toNat)
  case atStart => exact ⟨0, 0, by omega, rfl, rfl⟩
  case round =>
    obtain ⟨k, n, hk, rfl, rfl⟩ := hrel
    by_cases hlt : k < a.length
    · obtain ⟨x, hx⟩ : ∃ x, a[k]? = some x := ⟨_, List.getElem?_eq_getElem hlt⟩
      obtain ⟨ga, rfl, a0, a1, a2⟩ := fileReads HA.out hx
      obtain ⟨gb, rfl, b0, b1, b2⟩ := fileReads HB.out hx
      clear hx
      have hk0 : (0 : Int) ≤ (k : Int) := Int.natCast_nonneg _
      have hk1 : (k : Int) < (a.length : Int) := by omega
      generalize bs x.name = x1 at a0 b0
      generalize bs x.sure = x2 at a1 b1
      generalize bs x.loose = x3 at a2 b2
      go_wp2_with fail
      go_quiet (fail)
      go_wp2_with fail
      go_roundw
      case rel => exact ⟨k + 1, n + nq, by omega, by go_num, rfl⟩
      case measure => simp [intOf]; omega
    · obtain rfl : k = a.length := by omega
      go_wp2_with fail
      go_ret
      exact ⟨rfl, n, rfl⟩
end Go.Proofs.YtbnefpdjcbegpaaGreatDoor

namespace Go.Proofs.YtbnefpdjcbegpaaGreatDoor
open Go.RowKit

theorem i64_and4095 (n : Int) : bits .and .i64 n 4095 = n % 4096 := by
  have h127 : (BitVec.ofInt 64 4095).toNat = 2 ^ 12 - 1 := by decide
  have key : (BitVec.ofInt 64 n &&& BitVec.ofInt 64 4095).toNat = (n % ((2 ^ 64 : Nat) : Int)).toNat % 2 ^ 12 := by
    rw [BitVec.toNat_and, BitVec.toNat_ofInt, h127, Nat.and_two_pow_sub_one_eq_mod]
  show IntKind.i64.wrap ((BitVec.ofInt 64 n &&& BitVec.ofInt 64 4095).toNat : Nat) = n % 4096
  rw [key, IntKind.wrap_i64]
  omega

/-- A producer, and partitions, of the laws. -/
theorem lawPid (n : Int) : 1 ≤ wrap64 (1 + (wrap64 (n.tmod 3 + 3)).tmod 3) ∧ wrap64 (1 + (wrap64 (n.tmod 3 + 3)).tmod 3) ≤ 3 := by
  have h1 := Int.tmod_lt_of_pos n (show (0 : Int) < 3 by decide)
  have h2 : 0 ≤ n.tmod 3 + 3 := by have := Int.lt_tmod_of_pos n (show (0 : Int) < 3 by decide); omega
  have h3 := Int.tmod_nonneg 3 h2
  have h4 := Int.tmod_lt_of_pos (n.tmod 3 + 3) (show (0 : Int) < 3 by decide)
  rw [IntWalk.wrap64_in (n.tmod 3 + 3) (by omega), IntWalk.wrap64_in _ (by omega)]
  omega

theorem lawParts (n : Int) : 1 ≤ wrap64 (1 + bits .and .i64 n 4095) ∧ wrap64 (1 + bits .and .i64 n 4095) ≤ 4096 := by
  rw [i64_and4095, IntWalk.wrap64_in _ (by omega)]
  omega

section
variable {C : PCo} {L : PLog} {D : PDisk} {pid ep : Int}

theorem fin_none (hr : coReady L pid = 0) (he : rowE C.rows pid ep = 3) (yes : Bool) : C.fin L D pid ep yes = ⟨C, L, D, 0, 3⟩ := by
  unfold PCo.fin
  dsimp only
  generalize (if yes = true then (3 : Int) else 4) = k
  rw [hr, he, if_neg (fun h9 => h9 rfl), if_neg (fun h9 => absurd h9.1 (by decide)), if_pos (by decide)]

theorem fin_over (hr : coReady L pid = 0) (he : rowE C.rows pid ep = 8) {yes : Bool} (h : (rowZ C.rows pid).epoch - 1 = ep ∧ (rowZ C.rows pid).state = 1 ∧ (rowZ C.rows pid).last = if yes then 3 else 4) : C.fin L D pid ep yes = ⟨C, L, D, 1, 0⟩ := by
  unfold PCo.fin
  dsimp only
  rw [hr, he, if_neg (fun h9 => h9 rfl), if_pos ⟨rfl, h⟩]

theorem fin_fenced (hr : coReady L pid = 0) (he : rowE C.rows pid ep = 8) {yes : Bool} (h : ¬ ((rowZ C.rows pid).epoch - 1 = ep ∧ (rowZ C.rows pid).state = 1 ∧ (rowZ C.rows pid).last = if yes then 3 else 4)) : C.fin L D pid ep yes = ⟨C, L, D, 0, 8⟩ := by
  unfold PCo.fin
  dsimp only
  rw [hr, he, if_neg (fun h9 => h9 rfl), if_neg (fun h9 => h h9.2), if_pos (by decide)]

theorem add_not (hr : coReady L pid = 0) (hp : 1 ≤ pid ∧ pid ≤ 8) {parts : Int} (hq : 1 ≤ parts ∧ parts ≤ 4096) (he : rowE C.rows pid ep ≠ 0) : C.add L D pid ep parts = ⟨C, L, D, 0, rowE C.rows pid ep⟩ := by
  unfold PCo.add
  rw [hr, if_neg, if_neg (fun h9 => h9 rfl), if_pos he]
  intro h9
  exact h9 ⟨hp, ⟨(by decide : (1 : Int) ≤ 2), (by decide : (2 : Int) ≤ 5)⟩, fun _ => ⟨hq.1, by dsimp only; omega⟩, fun h => absurd rfl h⟩

theorem rowE_none (h : rowC C.rows pid ≠ 0) : rowE C.rows pid ep = 3 ∧ rowC C.rows pid = 3 := by
  unfold rowC at h ⊢
  unfold rowE
  cases h1 : rowOf C.rows pid with
  | none => exact ⟨rfl, rfl⟩
  | some t => rw [h1] at h; exact absurd rfl h

theorem rowE_some (h : rowC C.rows pid = 0) : rowE C.rows pid ep = if (rowZ C.rows pid).epoch ≠ ep then 8 else 0 := by
  unfold rowC at h
  unfold rowE rowZ
  cases h1 : rowOf C.rows pid with
  | none => rw [h1] at h; exact absurd h (by decide)
  | some t => rfl

/-- What End comes to, and what the law asks of the row. -/
theorem fence_ways {t : PTr} {yes : Bool} {kk : Int} (ht : rowZ C.rows pid = t) (hr : coReady L pid = 0) (he : rowE C.rows pid ep = 8) (hw : wrap64 (t.epoch - 1) = t.epoch - 1) (hk : (if yes then (3 : Int) else 4) = kk) :
    (C.fin L D pid ep yes = ⟨C, L, D, 1, 0⟩ ∧ (ep == wrap64 (t.epoch - 1)) = true ∧ decide (ep = wrap64 (t.epoch - 1)) = true ∧ (t.state == 1) = true ∧ decide (t.state = 1) = true ∧ (t.last == kk) = true ∧ decide (t.last = kk) = true)
    ∨ (C.fin L D pid ep yes = ⟨C, L, D, 0, 8⟩ ∧ (ep == wrap64 (t.epoch - 1)) = true ∧ decide (ep = wrap64 (t.epoch - 1)) = true ∧ (t.state == 1) = true ∧ decide (t.state = 1) = true ∧ (t.last == kk) = false ∧ decide (t.last = kk) = false)
    ∨ (C.fin L D pid ep yes = ⟨C, L, D, 0, 8⟩ ∧ (ep == wrap64 (t.epoch - 1)) = true ∧ decide (ep = wrap64 (t.epoch - 1)) = true ∧ (t.state == 1) = false ∧ decide (t.state = 1) = false)
    ∨ (C.fin L D pid ep yes = ⟨C, L, D, 0, 8⟩ ∧ (ep == wrap64 (t.epoch - 1)) = false ∧ decide (ep = wrap64 (t.epoch - 1)) = false) := by
  rw [hw]
  by_cases h1 : ep = t.epoch - 1
  · by_cases h2 : t.state = 1
    · by_cases h3 : t.last = kk
      · exact .inl ⟨fin_over hr he (by rw [ht, hk]; exact ⟨h1.symm, h2, h3⟩), by simpa using h1, decide_eq_true h1, by simpa using h2, decide_eq_true h2, by simpa using h3, decide_eq_true h3⟩
      · exact .inr (.inl ⟨fin_fenced hr he (by rw [ht, hk]; exact fun h9 => h3 h9.2.2), by simpa using h1, decide_eq_true h1, by simpa using h2, decide_eq_true h2, by simpa using h3, decide_eq_false h3⟩)
    · exact .inr (.inr (.inl ⟨fin_fenced hr he (by rw [ht]; exact fun h9 => h2 h9.2.1), by simpa using h1, decide_eq_true h1, by simpa using h2, decide_eq_false h2⟩))
  · exact .inr (.inr (.inr ⟨fin_fenced hr he (by rw [ht]; exact fun h9 => h1 h9.1.symm), by simpa using h1, decide_eq_false h1⟩))

theorem rowZ_in {s : List PTr} {pid : Int} (hr : TRight s) (h : rowC s pid = 0) : rowZ s pid ∈ s ∧ (rowZ s pid).pid = pid ∧ 1 ≤ (rowZ s pid).epoch ∧ (rowZ s pid).epoch ≤ 1099511627776 := by
  unfold rowC at h
  unfold rowZ
  cases h1 : rowOf s pid with
  | none => rw [h1] at h; exact absurd h (by decide)
  | some t =>
    obtain ⟨h2, h3⟩ := rowOf_mem h1
    exact ⟨h2, h3, (hr.all t h2).2⟩
end
end Go.Proofs.YtbnefpdjcbegpaaGreatDoor
