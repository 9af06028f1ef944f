/-
  OffsetsLast, plain: offsets whose power may go, and what is there behind a crash. No conditions.
  Numbers, and what is pending, are told to be the same just if they are: the walks. Conditions: lists that read.
  OffsetsLast: the walk. No conditions but deeds and numbers that read.
-/
import Derived.Test.YtjodkcjlipecdaaGreatDoorGZM
import Derived.Test.YtjodkcjlipecdaaGreatDoorGQM
import Derived.BigQuiet
import Derived.Deep.QuietTactic
import Derived.Test.YtjodkcjlipecdaaGreatDoorGKM
set_option maxRecDepth 100000
namespace Go.Proofs.YtjodkcjlipecdaaGreatDoor
open Go.RowKit

/-- Offsets with power, or without. -/
def LastOk (O : POff) (A : ALog) (D : PDisk) : Prop := OGood 4 1000 O A D ∨ ODark 4 1000 O A D

theorem LastOk.okk {O : POff} {A : ALog} {D : PDisk} (h : LastOk O A D) : O.Ok := by
  rcases h with h | h
  · exact h.ok
  · exact h.ok
theorem LastOk.len {O : POff} {A : ALog} {D : PDisk} (h : LastOk O A D) : O.com.length = 4 := by
  rcases h with h | h
  · exact h.len
  · exact h.len
theorem LastOk.wf {O : POff} {A : ALog} {D : PDisk} (h : LastOk O A D) : D.WF 1000 := by
  rcases h with h | h
  · exact h.wf
  · exact h.wf
theorem LastOk.on {O : POff} {A : ALog} {D : PDisk} (h : LastOk O A D) (ho : D.off = false) : OGood 4 1000 O A D := by
  rcases h with h | h
  · exact h
  · have := h.off; rw [ho] at this; cases this

def LastOut (r : POff × PLog × PDisk × Int) : Prop := ∃ A', r.2.1 = A'.toP ∧ LastOk r.1 A' r.2.2.1

theorem OGood.does_last {O : POff} {A : ALog} {D : PDisk} (h : OGood 4 1000 O A D) (x : ODeed) : LastOut (O.does A.toP D x) := by
  have h9 := h.does (by decide) x
  generalize O.does A.toP D x = r at h9
  cases h9 with
  | good O' A' D' c good step fuse => exact ⟨A', rfl, .inl good⟩
  | dark A' D' dark was => exact ⟨A', rfl, .inr dark⟩

theorem OGood.fused {O : POff} {A : ALog} {D : PDisk} (h : OGood 4 1000 O A D) (z : Int) : OGood 4 1000 O A { D with fuse := max (z.tmod 9) (-1) } := by
  have h1 := Int.tmod_lt_of_pos z (show (0 : Int) < 9 by decide)
  refine ⟨h.inv.same rfl rfl rfl rfl, ⟨h.wf.sorted, h.wf.ok, h.wf.count, h.wf.room, h.wf.sum, h.wf.size, ?_, ?_⟩, h.name, h.e, h.first, h.off, h.ok, h.len, h.rep, h.sure⟩
  · show -1 ≤ max (z.tmod 9) (-1)
    omega
  · show max (z.tmod 9) (-1) ≤ 9223372036854775807
    omega

theorem LastOk.again {O : POff} {A : ALog} {D : PDisk} (h : LastOk O A D) (keep : List Int) :
    ∃ A3 D3 O3, (D.crash keep).openLog offName = (A3.toP, D3, 0) ∧ OGood 4 1000 O3 A3 D3 ∧ (O3 = O ∨ (D.off = true ∧ ∃ n, O.fold n = some O3 ∧ n.fresh O)) := by
  rcases h with h | h
  · obtain ⟨hch, hend⟩ := h.chain
    obtain ⟨A3, D3, O3, h1, h2, _, h4⟩ := reopened h.wf h.inv h.name h.first (B := A.all) (Y := []) (by simp) hch (by rw [hend, h.sure]; omega) h.rep (.inl rfl) (by decide) keep
    refine ⟨A3, D3, O3, h1, h2, ?_⟩
    rcases h4 with h4 | ⟨h4, _⟩
    · exact .inl h4
    · exact absurd rfl h4
  · obtain ⟨A2, B, Y, g1, g2, g3, g4, g5, g6, g7, g8⟩ := h.left
    obtain ⟨A3, D3, O3, h1, h2, _, h4⟩ := reopened h.wf g1 g2 g3 g4 g5 g6 g7 g8 (by decide) keep
    refine ⟨A3, D3, O3, h1, h2, ?_⟩
    rcases h4 with h4 | ⟨_, n, h5, h6⟩
    · exact .inl h4
    · exact .inr ⟨h.off, n, h5, h6⟩

/-- What one note more may be. -/
inductive OneMore (O : POff) : POff → Prop
  | gen (O3 : POff) (com : O3.com = O.com) (pend : O3.pend = O.pend) (g : O.gen < O3.gen) (n : O.next ≤ O3.next) : OneMore O O3
  | next (O3 : POff) (com : O3.com = O.com) (pend : O3.pend = O.pend) (g : O3.gen = O.gen) (n : O.next < O3.next) : OneMore O O3
  | pend (O3 : POff) (x : PPend) (com : O3.com = O.com) (pend : O3.pend = O.pend ++ [x]) (g : O3.gen = O.gen) (n : O3.next = O.next) : OneMore O O3
  | done (O3 : POff) (pend : O3.pend.length < O.pend.length) (g : O3.gen = O.gen) (n : O3.next = O.next) : OneMore O O3

theorem oneMore {O O3 : POff} {n : PNote} (hf : O.fold n = some O3) (hfr : n.fresh O) : OneMore O O3 := by
  unfold POff.fold at hf
  split at hf
  · rename_i h1
    split at hf
    · cases hf
    · rename_i hn
      injection hf with hf
      subst hf
      have h2 := hfr h1
      have h3 : ¬ n.a < O.gen := fun h9 => hn (.inr (.inr (.inl h9)))
      have h4 : ¬ n.b < O.next := fun h9 => hn (.inr (.inr (.inr (.inl h9))))
      by_cases h5 : n.a = O.gen
      · exact .next _ rfl rfl h5 (by
          show O.next < n.b
          have : n.b ≠ O.next := fun h6 => h2 ⟨h5, h6⟩
          omega)
      · exact .gen _ rfl rfl (by show O.gen < n.a; omega) (by show O.next ≤ n.b; omega)
  · split at hf
    · split at hf
      · cases hf
      · injection hf with hf
        subst hf
        exact .pend _ _ rfl rfl rfl rfl
    · split at hf
      · split at hf
        · cases hf
        · rename_i hn
          injection hf with hf
          subst hf
          refine .done _ ?_ rfl rfl
          show (O.pend.filter fun x => !(x.pid == n.a)).length < O.pend.length
          have hne : O.ofPid n.a ≠ [] := fun h9 => hn (.inr (.inr (.inr h9)))
          obtain ⟨x, hx⟩ := List.exists_mem_of_ne_nil _ hne
          obtain ⟨h1, h2⟩ := ofPid_mem.1 hx
          have hle := List.length_filter_le (fun x : PPend => !(x.pid == n.a)) O.pend
          rcases Nat.lt_or_eq_of_le hle with h9 | h9
          · exact h9
          · have := List.length_filter_eq_length_iff.1 h9 x h1
            simp [h2] at this
      · cases hf
end Go.Proofs.YtjodkcjlipecdaaGreatDoor

namespace Go.Proofs.YtjodkcjlipecdaaGreatDoor
open Go.RowKit

def DrewB (w : World) (b : Bool) (e : Ending) (w' : World) : Prop := e = .returned (.bool b) ∧ ∃ n, w' = w.drewN n

theorem take_eq_step {α : Type} {a b : List α} {k : Nat} {x y : α} (h : a.take k = b.take k) (hx : a[k]? = some x) (hy : b[k]? = some y) (e : x = y) : a.take (k + 1) = b.take (k + 1) := by
  rw [List.take_add_one, List.take_add_one, h, hx, hy, e]

theorem ne_of_at {α : Type} {a b : List α} {k : Nat} {x y : α} (hx : a[k]? = some x) (hy : b[k]? = some y) (e : x ≠ y) : a ≠ b := by
  rintro rfl
  rw [hx] at hy
  exact e (Option.some.inj hy)

theorem comCells_at {l : List Int} {k : Nat} {x : Int} (h : l[k]? = some x) : (comCells l)[k]? = some (.int .i64 x) := by
  unfold comCells
  rw [List.getElem?_map, h]; rfl

theorem Reads.cellAt {w : World} {ad : Option Addr} {n m cap size : Nat} {xs : List Value} (h : Reads w (.slice ad m cap) n size xs) {j : Nat} {u : Value} (hu : xs[j]? = some u) : ∃ g, ad = some ⟨g, 0, none⟩ ∧ w.cell? ⟨g, j, none⟩ = some u := by
  obtain ⟨_, ad', cap', e, h2⟩ := h
  injection e with e _ _
  subst e
  exact h2 j u hu

theorem Reads.form9 {w : World} {v : Value} {n size : Nat} {xs : List Value} (h : Reads w v n size xs) : ∃ ad cap, v = .slice ad n cap := by
  obtain ⟨_, ad, cap, e, _⟩ := h
  exact ⟨ad, cap, e⟩

set_option maxHeartbeats 1000000 in
theorem sameInts_any {w : World} {va vb : Value} {a b : List Int} (ha : Reads w va a.length 1 (comCells a)) (hb : Reads w vb b.length 1 (comCells b)) (la : a.length ≤ 1000000) (lb : b.length ≤ 1000000) :
    Calls Tryz.prog 39 #[va, vb] w (DrewB w (decide (a = b))) := by
  obtain ⟨ada, capa, rfl⟩ := ha.form9
  obtain ⟨adb, capb, rfl⟩ := hb.form9
  have HA := hid ha
  have HB := hid hb
  clear ha hb
  by_cases hl : a.length = b.length
  · have HL := hid hl
    clear hl
    rw [← HL.out]
    have hne : ((a.length : Int) != (a.length : Int)) = false := by simp
    go_enter Tryz.func39, Tryz.ntmps39
    go_wp2_with fail
    go_loopw [5] (fun c wr => ∃ (k n : Nat), k ≤ a.length ∧ c = .int .i64 k ∧ wr = w.drewN n ∧ a.take k = b.take k) (fun c _ => a.length - (intOf c).toNat)
    case atStart => exact ⟨0, 0, by omega, rfl, rfl, rfl⟩
    case round =>
      obtain ⟨k, n, hk, rfl, rfl, ht⟩ := hrel
      have HT := hid ht
      clear ht
      by_cases hlt : k < a.length
      · obtain ⟨x, hx⟩ : ∃ x, a[k]? = some x := ⟨_, List.getElem?_eq_getElem hlt⟩
        obtain ⟨y, hy⟩ : ∃ y, b[k]? = some y := ⟨_, List.getElem?_eq_getElem (by have := HL.out; omega)⟩
        obtain ⟨ga, rfl, a0⟩ := HA.out.cellAt (comCells_at hx)
        obtain ⟨gb, rfl, b0⟩ := HB.out.cellAt (comCells_at hy)
        have HX := hid hx
        have HY := hid hy
        clear hx hy
        have hk0 : (0 : Int) ≤ (k : Int) := Int.natCast_nonneg _
        have hk1 : (k : Int) < (a.length : Int) := by omega
        by_cases he : x = y
        · have HS := hid (take_eq_step HT.out HX.out HY.out he)
          subst he
          go_wp2_with fail
          go_quiet (fail)
          go_wp2_with fail
          go_roundw
          case rel => exact ⟨k + 1, n + nq, by omega, by go_num, rfl, HS.out⟩
          case measure => simp [intOf]; omega
        · have HN := hid (ne_of_at HX.out HY.out he)
          have hd : decide (x = y) = false := decide_eq_false he
          go_wp2_with fail
          go_quiet (fail)
          go_wp2_with fail
          go_ret
          exact ⟨by rw [decide_eq_false HN.out]; rfl, n + nq, by simp⟩
      · obtain rfl : k = a.length := by omega
        have hab : a = b := by
          have := HT.out
          rw [List.take_length, HL.out, List.take_length] at this
          exact this
        have HAB := hid hab
        clear hab
        go_wp2_with fail
        go_ret
        exact ⟨by rw [decide_eq_true HAB.out]; rfl, n, rfl⟩
  · have HN : Hid (a ≠ b) := hid (by rintro rfl; exact hl rfl)
    have hne : ((a.length : Int) != (b.length : Int)) = true := by simp; omega
    have hd : decide (a.length = b.length) = false := decide_eq_false hl
    clear hl
    go_enter Tryz.func39, Tryz.ntmps39
    go_wp2_with fail
    go_ret
    exact ⟨by rw [decide_eq_false HN.out]; rfl, 0, rfl⟩

set_option maxHeartbeats 1000000 in
theorem samePends_any {w : World} {va vb : Value} {a b : List PPend} (ha : Reads w va a.length 4 (pendCells a)) (hb : Reads w vb b.length 4 (pendCells b)) (la : a.length ≤ 1000000) (lb : b.length ≤ 1000000) :
    Calls Tryz.prog 40 #[va, vb] w (DrewB w (decide (a = b))) := by
  obtain ⟨ada, capa, rfl⟩ := ha.form9
  obtain ⟨adb, capb, rfl⟩ := hb.form9
  have HA := hid ha
  have HB := hid hb
  clear ha hb
  by_cases hl : a.length = b.length
  · have HL := hid hl
    clear hl
    rw [← HL.out]
    have hne : ((a.length : Int) != (a.length : Int)) = false := by simp
    go_enter Tryz.func40, Tryz.ntmps40
    go_wp2_with fail
    go_loopw [5] (fun c wr => ∃ (k n : Nat), k ≤ a.length ∧ c = .int .i64 k ∧ wr = w.drewN n ∧ a.take k = b.take k) (fun c _ => a.length - (intOf c).toNat)
    case atStart => exact ⟨0, 0, by omega, rfl, rfl, rfl⟩
    case round =>
      obtain ⟨k, n, hk, rfl, rfl, ht⟩ := hrel
      have HT := hid ht
      clear ht
      by_cases hlt : k < a.length
      · obtain ⟨x, hx⟩ : ∃ x, a[k]? = some x := ⟨_, List.getElem?_eq_getElem hlt⟩
        obtain ⟨y, hy⟩ : ∃ y, b[k]? = some y := ⟨_, List.getElem?_eq_getElem (by have := HL.out; omega)⟩
        obtain ⟨e0, e1, e2, e3⟩ := pendCells_at a k x hx
        obtain ⟨f0, f1, f2, f3⟩ := pendCells_at b k y hy
        obtain ⟨ga, rfl, a0⟩ := HA.out.cellAt e0
        obtain ⟨gb, rfl, b0⟩ := HB.out.cellAt f0
        obtain ⟨_, h9, a1⟩ := HA.out.cellAt e1
        injection h9 with h9; injection h9 with h9; subst h9
        obtain ⟨_, h9, a2⟩ := HA.out.cellAt e2
        injection h9 with h9; injection h9 with h9; subst h9
        obtain ⟨_, h9, a3⟩ := HA.out.cellAt e3
        injection h9 with h9; injection h9 with h9; subst h9
        obtain ⟨_, h9, b1⟩ := HB.out.cellAt f1
        injection h9 with h9; injection h9 with h9; subst h9
        obtain ⟨_, h9, b2⟩ := HB.out.cellAt f2
        injection h9 with h9; injection h9 with h9; subst h9
        obtain ⟨_, h9, b3⟩ := HB.out.cellAt f3
        injection h9 with h9; injection h9 with h9; subst h9
        clear e0 e1 e2 e3 f0 f1 f2 f3
        have HX := hid hx
        have HY := hid hy
        clear hx hy
        have hk0 : (0 : Int) ≤ (k : Int) := Int.natCast_nonneg _
        have hk1 : (k : Int) < (a.length : Int) := by omega
        obtain ⟨x1, x2, x3, x4⟩ := x
        obtain ⟨y1, y2, y3, y4⟩ := y
        dsimp only at a0 a1 a2 a3 b0 b1 b2 b3
        by_cases h1 : x1 = y1
        · by_cases h2 : x2 = y2
          · by_cases h3 : x3 = y3
            · by_cases h4 : x4 = y4
              · have HS := hid (take_eq_step HT.out HX.out HY.out (by rw [h1, h2, h3, h4]))
                subst h1 h2 h3 h4
                go_wp2_with fail
                go_quiet (fail)
                go_wp2_with fail
                go_roundw
                case rel => exact ⟨k + 1, n + nq, by omega, by go_num, rfl, HS.out⟩
                case measure => simp [intOf]; omega
              · have HN := hid (ne_of_at HX.out HY.out (fun e => h4 (by injection e)))
                have hd : decide (x4 = y4) = false := decide_eq_false h4
                subst h1 h2 h3
                go_wp2_with fail
                go_quiet (fail)
                go_wp2_with fail
                go_ret
                exact ⟨by rw [decide_eq_false HN.out]; rfl, n + nq, by simp⟩
            · have HN := hid (ne_of_at HX.out HY.out (fun e => h3 (by injection e)))
              have hd : decide (x3 = y3) = false := decide_eq_false h3
              subst h1 h2
              go_wp2_with fail
              go_quiet (fail)
              go_wp2_with fail
              go_ret
              exact ⟨by rw [decide_eq_false HN.out]; rfl, n + nq, by simp⟩
          · have HN := hid (ne_of_at HX.out HY.out (fun e => h2 (by injection e)))
            have hd : decide (x2 = y2) = false := decide_eq_false h2
            subst h1
            go_wp2_with fail
            go_quiet (fail)
            go_wp2_with fail
            go_ret
            exact ⟨by rw [decide_eq_false HN.out]; rfl, n + nq, by simp⟩
        · have HN := hid (ne_of_at HX.out HY.out (fun e => h1 (by injection e)))
          have hd : decide (x1 = y1) = false := decide_eq_false h1
          go_wp2_with fail
          go_quiet (fail)
          go_wp2_with fail
          go_ret
          exact ⟨by rw [decide_eq_false HN.out]; rfl, n + nq, by simp⟩
      · obtain rfl : k = a.length := by omega
        have hab : a = b := by
          have := HT.out
          rw [List.take_length, HL.out, List.take_length] at this
          exact this
        have HAB := hid hab
        clear hab
        go_wp2_with fail
        go_ret
        exact ⟨by rw [decide_eq_true HAB.out]; rfl, n, rfl⟩
  · have HN : Hid (a ≠ b) := hid (by rintro rfl; exact hl rfl)
    have hne : ((a.length : Int) != (b.length : Int)) = true := by simp; omega
    have hd : decide (a.length = b.length) = false := decide_eq_false hl
    clear hl
    go_enter Tryz.func40, Tryz.ntmps40
    go_wp2_with fail
    go_ret
    exact ⟨by rw [decide_eq_false HN.out]; rfl, 0, rfl⟩
end Go.Proofs.YtjodkcjlipecdaaGreatDoor

namespace Go.Proofs.YtjodkcjlipecdaaGreatDoor
open Go.RowKit

theorem own_cap9 {w : World} {base : Nat} {e : TypeId} {size : Nat} {ad : Option Addr} {n m cap : Nat} {xs : List Value} (h : w.ownsRow base e size (.slice ad m cap) n xs) : n ≤ cap ∧ m = n := by
  rcases h.2 with ⟨e1, hz⟩ | ⟨g, c, cur, e1, _, _, h3, _⟩
  · injection e1 with _ e2 e3
    omega
  · injection e1 with _ e2 e3
    omega

/-- The first pending ones. -/
theorem pends_first {w : World} {base : Nat} {ad : Option Addr} {cap : Nat} {p l m : List PPend} (h : w.ownsRow base 78 4 (.slice ad p.length cap) p.length (pendCells p)) (e : p = l ++ m) : Reads w (.slice ad l.length cap) l.length 4 (pendCells l) := by
  refine ⟨pendCells_len l, ad, cap, rfl, fun j u hj => ?_⟩
  have hlt := (List.getElem?_eq_some_iff.1 hj).1
  rw [pendCells_len] at hlt
  obtain ⟨_, ad', cap', e1, h2⟩ := Reads.of_own h
  injection e1 with e1 _ _
  subst e1
  refine h2 j u ?_
  rw [e, pendCells_app, List.getElem?_append_left (by rw [pendCells_len]; exact hlt)]
  exact hj

/-- Between two rounds of OffsetsLast's loops. -/
def LastRel1 (w : World) (o ll d : Nat) (v : Value) (q : List OCell) (c : Value) (wr : World) : Prop :=
  ∃ (k : Nat) (O : POff) (A : ALog) (D : PDisk) (S SL SD : Nat → Prop), k ≤ q.length ∧ c = .int .i64 k ∧ OffMade w wr o ll d S SL SD O A.toP D ∧ OGood 4 1000 O A D ∧ D.fuse = -1 ∧
    wr.ownsRow w.heap.size 68 9 v q.length (odsCells q)

def LastRel2 (w : World) (o ll d : Nat) (v : Value) (q : List OCell) (c : Value) (wr : World) : Prop :=
  ∃ (k : Nat) (O : POff) (A : ALog) (D : PDisk) (S SL SD : Nat → Prop), k ≤ q.length ∧ c = .int .i64 k ∧ OffMade w wr o ll d S SL SD O A.toP D ∧ LastOk O A D ∧
    wr.ownsRow w.heap.size 68 9 v q.length (odsCells q)

def LastEnd (w : World) (o ll d : Nat) (wr : World) : Prop :=
  ∃ (O : POff) (A : ALog) (D : PDisk) (S SL SD : Nat → Prop), OffMade w wr o ll d S SL SD O A.toP D ∧ LastOk O A D

/-- Numbers that came in, cut at 70. -/
theorem keep_ways {w : World} {kv : Value} {keep : List Int} (h : InRow w kv keep.length 1 (keepCells keep)) :
    ∃ kad kcap keep2, kv = .slice kad keep.length kcap ∧ ((decide ((70 : Int) < (keep.length : Int)) = true ∧ keep2.length = 70 ∧ 70 ≤ kcap) ∨ (decide ((70 : Int) < (keep.length : Int)) = false ∧ keep2.length = keep.length)) ∧
      InRow w (.slice kad keep2.length kcap) keep2.length 1 (keepCells keep2) ∧ ∀ a m cap, (Value.slice kad keep2.length kcap) = .slice (some a) m cap → keepCells keep2 ≠ [] → a.block < w.heap.size := by
  obtain ⟨_, kad, kcap, rfl, g3, g4, g5⟩ := h
  have main : ∃ keep2 : List Int, ((decide ((70 : Int) < (keep.length : Int)) = true ∧ keep2.length = 70 ∧ 70 ≤ kcap) ∨ (decide ((70 : Int) < (keep.length : Int)) = false ∧ keep2.length = keep.length)) ∧
      InRow w (.slice kad keep2.length kcap) keep2.length 1 (keepCells keep2) := by
    by_cases h9 : 70 < keep.length
    · refine ⟨keep.take 70, .inl ⟨by simp; omega, by rw [List.length_take]; omega, by omega⟩, ?_⟩
      refine ⟨by simp [keepCells], kad, kcap, rfl, by rw [List.length_take]; omega, g4, fun j u hu => g5 j u ?_⟩
      unfold keepCells at hu ⊢
      rw [List.map_take] at hu
      have hlt := (List.getElem?_eq_some_iff.1 hu).1
      rw [List.getElem?_take_of_lt (by rw [List.length_take] at hlt; omega)] at hu
      exact hu
    · exact ⟨keep, .inr ⟨by simp; omega, rfl⟩, by simp [keepCells], kad, kcap, rfl, g3, g4, g5⟩
  obtain ⟨keep2, h1, h2⟩ := main
  refine ⟨kad, kcap, keep2, rfl, h1, h2, fun a m cap e hne => ?_⟩
  obtain ⟨_, ad', cap', e', _, _, h5⟩ := h2
  injection e with e _ _
  injection e' with e' _ _
  obtain ⟨u, hu⟩ : ∃ u, (keepCells keep2)[0]? = some u := by
    cases hc : keepCells keep2 with
    | nil => exact absurd hc hne
    | cons y l => exact ⟨y, rfl⟩
  obtain ⟨a', ha', hc'⟩ := h5 0 u hu
  rw [← e', e] at ha'
  injection ha' with ha'
  subst ha'
  have := World.block_lt_of_cell? w _ hc'
  unfold Addr.add at this
  simpa using this

set_option maxHeartbeats 40000000 in
theorem last_any {w : World} {v v2 kv : Value} {l l2 : List ODeed} {keep : List Int} (n : Int) (h : InODeeds w v l) (h2 : InODeeds w v2 l2) (hk : InRow w kv keep.length 1 (keepCells keep)) :
    Calls Tryz.prog 7 #[v, .int .i64 n, v2, kv] w (AwakePost11 w) := by
  obtain ⟨kad, kcap, keep2, rfl, hways, hkr, hap⟩ := keep_ways hk
  have HI := hid h
  have HI2 := hid h2
  have HWAYS := hid hways
  have HKR := hid hkr
  have HAP := hid hap
  clear h h2 hk hways hkr hap
  go_enter Tryz.func7, Tryz.ntmps7
  go_wp2_with fail
  refine (fresh_any 4 w (by omega)).mono ?_
  rintro e w1 ⟨o, ll, d, S, SL, SD, rfl, ho, hb, hs, hsl, hsd⟩
  have HM := hid (OffMade.mk ho hb hs hsl hsd)
  have HB := hid hb
  clear ho hb hs hsl hsd
  go_wp2_with fail
  refine (few11_any (HI.out.below HB.out)).mono ?_
  rintro e w2 ⟨v1, rfl, ⟨q, hql, hrow, hall⟩, hb2⟩
  have HM2 := hid (HM.out.below hb2)
  have HROW := hid (own_base (base' := w.heap.size) hrow (by have := HB.out.size; omega))
  have HALL : Hid (∀ x ∈ q, (∃ ka kn kc, x.K = .slice ka kn kc) ∧ x.d.fits) := hid (fun x hx => by
    obtain ⟨⟨_, ka, kc, hK, _⟩, hf⟩ := hall x hx
    exact ⟨⟨ka, _, kc, hK⟩, hf⟩)
  obtain ⟨va, vc, rfl⟩ := row_slice hrow
  have hq60 : q.length ≤ 60 := by
    have h9 := congrArg List.length hql
    unfold fewO at h9
    rw [List.length_map, List.length_map, List.length_take] at h9
    omega
  clear hrow hall hb2 HI HM HB hql
  go_wp2_with fail
  go_loopw [11] (fun c wr => LastRel1 w o ll d (.slice va q.length vc) q c wr) (fun c _ => q.length - (intOf c).toNat)
  case atStart => exact ⟨0, POff.init 4, aO, dO, _, _, _, by omega, rfl, HM2.out, new_good 4, rfl, HROW.out⟩
  case round =>
    clear HM2 HROW
    obtain ⟨k, O, A, D, S, SL, SD, hk, rfl, hm, hg, hfu, hrow⟩ := hrel
    have HM := hid hm
    have HG := hid hg
    have HFU := hid hfu
    have HROW := hid hrow
    have hcl : O.com.length ≤ 4 := by have := hg.len; omega
    clear hm hg hfu hrow
    by_cases hlt : k < q.length
    · obtain ⟨x, hx⟩ : ∃ x, q[k]? = some x := ⟨_, List.getElem?_eq_getElem hlt⟩
      obtain ⟨⟨ka, kn, kc, hK⟩, hfit⟩ := HALL.out x (List.mem_of_getElem? hx)
      obtain ⟨xd, xK⟩ := x
      simp only at hK hfit
      subst hK
      obtain ⟨g, cap, hve, hgl, hcells⟩ := OutODeeds.at HROW.out hx
      injection hve with e1 e2 e3
      subst e1 e3
      have HFIT := hid hfit
      have d0 := hcells 0 _ rfl
      have d1 := hcells 1 _ rfl
      have d2 := hcells 2 _ rfl
      have d3 := hcells 3 _ rfl
      have d4 := hcells 4 _ rfl
      have d5 := hcells 5 _ rfl
      have d6 := hcells 6 _ rfl
      have d7 := hcells 7 _ rfl
      have d8 := hcells 8 _ rfl
      simp only [Nat.add_zero] at d0
      clear hx hcells hfit e2
      go_wp2_with fail
      refine (does_any (N := 1000) xd ka kn kc HFIT.out HM.out.offs HG.out.ok hcl (fun _ => ⟨HG.out.inv, HG.out.wf⟩) HG.out.ok.com).mono ?_
      rintro e w6 ⟨rfl, hto⟩
      clear d0 d1 d2 d3 d4 d5 d6 d7 d8
      have HRD6 := hid (HM.out.offs.typed hto HROW.out (by decide) (by decide) (by decide))
      obtain ⟨S6, SL6, SD6, hm6⟩ := HM.out.to hto
      obtain ⟨⟨A6, hA6, hg6, hfu6⟩, _⟩ := HG.out.does_good (by decide) HFU.out xd
      clear hto
      generalize O.does A.toP D xd = r at hm6 hA6 hg6 hfu6
      obtain ⟨O6, L6, D6, c6⟩ := r
      dsimp only at hm6 hA6 hg6 hfu6
      subst hA6
      have HM6 := hid hm6
      have HG6 := hid hg6
      have HFU6 := hid hfu6
      clear hm6 hg6 hfu6 HM HROW HG HFU
      go_wp2_with fail
      go_roundw
      case rel => exact ⟨k + 1, O6, A6, D6, S6, SL6, SD6, by omega, by go_num, HM6.out, HG6.out, HFU6.out, HRD6.out⟩
      case measure => simp [intOf]; omega
    · obtain rfl : k = q.length := by omega
      clear hlt HALL HROW HFU hcl
      go_wp2_with fail
      generalize wrap64 (n.tmod 9 + 9) = z
      refine (fuse_any d SD D (z.tmod 9) _ HM.out.offs.disk).mono ?_
      rintro e w3 ⟨rfl, hto⟩
      obtain ⟨S3, SL3, SD3, hm3⟩ := HM.out.to (HM.out.offs.log_to (LogTo.disk HM.out.offs.log (Below.refl _ _) hto (fun k hk => HM.out.offs.log.apart HM.out.offs.disk hk)))
      have HM3 := hid hm3
      have HG3 := hid (HG.out.fused z)
      clear hto hm3 HM HG
      generalize ({ D with fuse := max (z.tmod 9) (-1) } : PDisk) = D0 at HM3 HG3
      go_wp2_with fail
      refine (few11_any (HI2.out.below HM3.out.bel)).mono ?_
      rintro e w4 ⟨v4, rfl, ⟨q4, hql, hrow, hall⟩, hb4⟩
      have HM4 := hid (HM3.out.below hb4)
      have HROW := hid (own_base (base' := w.heap.size) hrow (by have := HM3.out.bel.size; omega))
      have HALL : Hid (∀ x ∈ q4, (∃ ka kn kc, x.K = .slice ka kn kc) ∧ x.d.fits) := hid (fun x hx => by
        obtain ⟨⟨_, ka, kc, hK, _⟩, hf⟩ := hall x hx
        exact ⟨⟨ka, _, kc, hK⟩, hf⟩)
      obtain ⟨vb, vd, rfl⟩ := row_slice hrow
      have hq64 : q4.length ≤ 60 := by
        have h9 := congrArg List.length hql
        unfold fewO at h9
        rw [List.length_map, List.length_map, List.length_take] at h9
        omega
      clear hrow hall hb4 HM3 hql HI2 hk
      go_upto_block 2 with fail
      go_cut [12] (fun _ wx => LastEnd w o ll d wx)
      case first =>
        go_wp2_with fail
        go_loopw [12] (fun c wr => LastRel2 w o ll d (.slice vb q4.length vd) q4 c wr) (fun c _ => q4.length - (intOf c).toNat)
        case atStart => exact ⟨0, O, A, D0, _, _, _, by omega, rfl, HM4.out, .inl HG3.out, HROW.out⟩
        case round =>
          clear HM4 HROW HG3
          obtain ⟨k, O, A, D, S, SL, SD, hk, rfl, hm, hg, hrow⟩ := hrel
          have HM := hid hm
          have HL := hid hg
          have HROW := hid hrow
          have hcl : O.com.length ≤ 4 := by have := hg.len; omega
          have HEND : Hid (LastEnd w o ll d wr) := hid ⟨O, A, D, S, SL, SD, hm, hg⟩
          clear hm hg hrow
          by_cases hlt : k < q4.length
          · obtain ⟨b, hb⟩ : ∃ b, D.off = b := ⟨_, rfl⟩
            cases b with
            | false =>
              have HG := hid (HL.out.on hb)
              have HOFF := hid hb
              clear hb
              obtain ⟨x, hx⟩ : ∃ x, q4[k]? = some x := ⟨_, List.getElem?_eq_getElem hlt⟩
              obtain ⟨⟨ka, kn, kc, hK⟩, hfit⟩ := HALL.out x (List.mem_of_getElem? hx)
              obtain ⟨xd, xK⟩ := x
              simp only at hK hfit
              subst hK
              obtain ⟨g, cap, hve, hgl, hcells⟩ := OutODeeds.at HROW.out hx
              injection hve with e1 e2 e3
              subst e1 e3
              have HFIT := hid hfit
              have d0 := hcells 0 _ rfl
              have d1 := hcells 1 _ rfl
              have d2 := hcells 2 _ rfl
              have d3 := hcells 3 _ rfl
              have d4 := hcells 4 _ rfl
              have d5 := hcells 5 _ rfl
              have d6 := hcells 6 _ rfl
              have d7 := hcells 7 _ rfl
              have d8 := hcells 8 _ rfl
              simp only [Nat.add_zero] at d0
              clear hx hcells hfit e2
              go_wp2_with fail
              refine (off_any d SD D _ HM.out.offs.disk).mono ?_
              rintro e w' ⟨rfl, rfl⟩
              rw [HOFF.out]
              go_wp2_with fail
              refine (does_any (N := 1000) xd ka kn kc HFIT.out HM.out.offs HG.out.ok hcl (fun _ => ⟨HG.out.inv, HG.out.wf⟩) HG.out.ok.com).mono ?_
              rintro e w6 ⟨rfl, hto⟩
              clear d0 d1 d2 d3 d4 d5 d6 d7 d8
              have HRD6 := hid (HM.out.offs.typed hto HROW.out (by decide) (by decide) (by decide))
              obtain ⟨S6, SL6, SD6, hm6⟩ := HM.out.to hto
              obtain ⟨A6, hA6, hg6⟩ := HG.out.does_last xd
              clear hto
              generalize O.does A.toP D xd = r at hm6 hA6 hg6
              obtain ⟨O6, L6, D6, c6⟩ := r
              dsimp only at hm6 hA6 hg6
              subst hA6
              have HM6 := hid hm6
              have HG6 := hid hg6
              clear hm6 hg6 HM HROW HG HL
              go_wp2_with fail
              go_roundw
              case rel => exact ⟨k + 1, O6, A6, D6, S6, SL6, SD6, by omega, by go_num, HM6.out, HG6.out, HRD6.out⟩
              case measure => simp [intOf]; omega
            | true =>
              have HOFF := hid hb
              clear hb
              go_wp2_with fail
              refine (off_any d SD D _ HM.out.offs.disk).mono ?_
              rintro e w' ⟨rfl, rfl⟩
              rw [HOFF.out]
              go_wp2_with fail
              go_meet
              exact HEND.out
          · obtain rfl : k = q4.length := by omega
            go_wp2_with fail
            go_meet
            exact HEND.out
      case rest =>
        clear HM4 HROW HG3 HALL
        obtain ⟨O, A, D, S, SL, SD, hm, hl⟩ := hcut
        obtain ⟨A3, D3, O3, a1, a2, a3⟩ := hl.again keep2
        have HM := hid hm
        have HL := hid hl
        have HA1 := hid a1
        have HG := hid a2
        have HA3 := hid a3
        have hcl : O.com.length ≤ 4 := by have := hl.len; omega
        have hpl : O.pend.length ≤ 4 := by have := hl.okk.few; omega
        have hcl3 : O3.com.length ≤ 4 := by have := a2.len; omega
        have hpl3 : O3.pend.length ≤ 4 := by have := a2.ok.few; omega
        clear hm hl a1 a2 a3
        -- BEHIND THE LOOPS
        go_wp2_with fail
        refine (off_any d SD D _ HM.out.offs.disk).mono ?_
        rintro e w' ⟨rfl, rfl⟩
        obtain ⟨b, hb⟩ : ∃ b, D.off = b := ⟨_, rfl⟩
        rw [hb]
        have HOFF := hid hb
        clear hb
        go_wp2_with fail
        refine (committed_any HM.out.offs.off hcl).mono ?_
        rintro e w5 ⟨v5, rfl, hrow5, hb5⟩
        have HM5 := hid (HM.out.below hb5)
        have HR5 := hid (own_base (base' := 0) hrow5 (by omega))
        clear hb5 hrow5 HM
        go_wp2_with fail
        refine (pends_any HM5.out.offs.off hpl).mono ?_
        rintro e w6 ⟨v6, rfl, hrow6, hb6⟩
        obtain ⟨pa6, pc6, rfl⟩ := row_slice hrow6
        have HM6 := hid (HM5.out.below hb6)
        have HR56 := hid (own_bel HR5.out hb6)
        have HR6 := hid (own_base (base' := 0) hrow6 (by omega))
        clear hb6 hrow6 HM5 HR5
        go_wp2_with fail
        refine (genOf_any HM6.out.offs.off).mono ?_
        rintro e w7 ⟨rfl, hb7⟩
        have HM7 := hid (HM6.out.below hb7)
        have HR57 := hid (own_bel HR56.out hb7)
        have HR67 := hid (own_bel HR6.out hb7)
        clear hb7 HM6 HR56 HR6
        rcases HWAYS.out with ⟨hlt, hl70, hk70⟩ | ⟨hlt, hl70⟩
        all_goals
          rw [hl70] at HKR HAP
          go_wp2_with fail
          refine (crash_any d SD D 1000 _ keep2 _ HM7.out.offs.disk HL.out.wf (by rw [hl70]; exact inRow_below HKR.out HM7.out.bel) (fun a m cap e hne hs => by have h1 := HAP.out a m cap e hne; have h2 := HM7.out.sd _ hs; omega)).mono ?_
          rintro e w8 ⟨rfl, SD8, hd8, hf8, hs8⟩
          have HR58 := hid (row_fr HR57.out hf8 (fun k hk h9 => row_disk HR57.out HM7.out.offs.disk (by decide) (by decide) k hk h9))
          have HR68 := hid (row_fr HR67.out hf8 (fun k hk h9 => row_disk HR67.out HM7.out.offs.disk (by decide) (by decide) k hk h9))
          have HB8 : Hid (Below w.heap.size w w8) := hid (HM7.out.bel.trans (hf8.to_below HM7.out.bel.size (fun k hk h9 => by have := HM7.out.sd k h9; omega)))
          have HSD8 : Hid (∀ k, SD8 k → w.heap.size ≤ k) := hid (fun k hk => by
            rcases hs8 k hk with h9 | h9
            · exact HM7.out.sd k h9
            · have := HM7.out.bel.size; omega)
          have HD8 := hid hd8
          clear hd8 hf8 hs8 HM7 HR57 HR67 hlt hl70
          go_wp2_with fail
          refine (offOpen_good (N := 1000) 4 (by omega) HD8.out (HL.out.wf.crash keep2) HA1.out HG.out.inv HG.out.wf HG.out.off HG.out.e HG.out.rep).mono ?_
          rintro e w9 ⟨o2, l2, S2, SL2, SD2, rfl, hoffs, hfr, hs2, hsl2, hsd2⟩
          have HR59 := hid (row_fr HR58.out hfr (fun k hk h9 => row_disk HR58.out HD8.out (by decide) (by decide) k hk h9))
          have HR69 := hid (row_fr HR68.out hfr (fun k hk h9 => row_disk HR68.out HD8.out (by decide) (by decide) k hk h9))
          have HB9 : Hid (Below w.heap.size w w9) := hid (HB8.out.trans (hfr.to_below HB8.out.size (fun k hk h9 => by have := HSD8.out k h9; omega)))
          have HO9 := hid hoffs
          clear hoffs hfr hs2 hsl2 hsd2 HR58 HR68 HB8 HSD8 HD8
          go_wp2_with fail
          refine (genOf_any HO9.out.off).mono ?_
          rintro e w10 ⟨rfl, hb10⟩
          have HO10 := hid (HO9.out.below hb10)
          have HR50 := hid (own_bel HR59.out hb10)
          have HR60 := hid (own_bel HR69.out hb10)
          have HB10 := hid (bel_next HB9.out hb10)
          clear hb10 HO9 HR59 HR69 HB9
          go_wp2_with fail
          refine (committed_any HO10.out.off hcl3).mono ?_
          rintro e w11 ⟨v11, rfl, hrow11, hb11⟩
          have HO11 := hid (HO10.out.below hb11)
          have HR51 := hid (own_bel HR50.out hb11)
          have HR61 := hid (own_bel HR60.out hb11)
          have HB11 := hid (bel_next HB10.out hb11)
          have HR11 := hid hrow11
          clear hb11 hrow11 HO10 HR50 HR60 HB10
          go_wp2_with fail
          refine (sameInts_any (Reads.of_own HR11.out) (Reads.of_own HR51.out) (by omega) (by omega)).mono ?_
          rintro e w12 ⟨rfl, n12, rfl⟩
          have HO12 := hid (HO11.out.below (bel_drewN _ _ n12))
          have HR62 := hid (own_bel HR61.out (bel_drewN _ _ n12))
          have HB12 := hid (bel_next HB11.out (bel_drewN _ _ n12))
          clear HO11 HR51 HR61 HB11 HR11
          generalize w11.drewN n12 = w12 at HO12 HR62 HB12 ⊢
          have h3 := HA3.out
          have hof := HOFF.out
          obtain ⟨g3, m3, com3, pend3⟩ := O3
          obtain ⟨g0, m0, com0, pend0⟩ := O
          dsimp only at HR62 hpl hpl3 ⊢
          clear HA3 HA1 HG HL HOFF hcl hcl3
          rcases h3 with h3 | ⟨hon, nn, hnf, hnfr⟩
          · injection h3 with e1 e2 e3 e4
            subst e1 e2 e3 e4
            rw [decide_eq_true rfl]
            clear hof
            go_wp2_with fail
            refine (pends_any HO12.out.off hpl3).mono ?_
            rintro e w21 ⟨v21, rfl, hrow21, hb21⟩
            dsimp only at hrow21
            obtain ⟨pa21, pc21, rfl⟩ := row_slice hrow21
            have HO21 := hid (HO12.out.below hb21)
            have HR21 := hid (own_bel HR62.out hb21)
            have HB21 := hid (bel_next HB12.out hb21)
            have HP21 := hid hrow21
            clear hb21 hrow21 HO12 HR62 HB12
            go_wp2_with fail
            refine (samePends_any (Reads.of_own HP21.out) (Reads.of_own HR21.out) (by omega) (by omega)).mono ?_
            rintro e w22 ⟨rfl, n22, rfl⟩
            rw [decide_eq_true rfl]
            have HO22 := hid (HO21.out.below (bel_drewN _ _ n22))
            have HR22 := hid (own_bel HR21.out (bel_drewN _ _ n22))
            have HP22 := hid (own_bel HP21.out (bel_drewN _ _ n22))
            have HB22 := hid (bel_next HB21.out (bel_drewN _ _ n22))
            clear HO21 HR21 HB21 HP21
            generalize w21.drewN n22 = w22 at HO22 HR22 HB22 HP22 ⊢
            cases b
            all_goals
              go_wp2_with fail
              refine (awake11_any _).mono ?_
              rintro e w20 ⟨rfl, hb20⟩
              have HB99 := hid (bel_next HB22.out hb20)
              clear hb20
              go_wp2_with fail
              go_ret
              exact ⟨rfl, HB99.out⟩
          · rw [hon] at hof
            subst hof
            have h1 := oneMore hnf hnfr
            clear hnf hnfr hon
            cases h1 with
            | gen e1 e2 hg hn =>
              dsimp only at e1 e2 hg hn
              subst e1 e2
              rw [decide_eq_true rfl]
              have k1 : decide (g3 = g0) = false := decide_eq_false (by omega)
              have j1 : (g3 == g0) = false := by simp; omega
              have k2 : decide (g0 < g3) = true := decide_eq_true hg
              have k3 : decide (g0 ≤ g3) = true := decide_eq_true (by omega)
              have k4 : decide (m0 ≤ m3) = true := decide_eq_true hn
              clear hg hn
              go_wp2_with fail
              refine (pends_any HO12.out.off hpl3).mono ?_
              rintro e w23 ⟨v23, rfl, hrow23, hb23⟩
              dsimp only at hrow23
              obtain ⟨pa23, pc23, rfl⟩ := row_slice hrow23
              have HO23 := hid (HO12.out.below hb23)
              have HR23 := hid (own_bel HR62.out hb23)
              have HB23 := hid (bel_next HB12.out hb23)
              have HP23 := hid hrow23
              clear hb23 hrow23 HO12 HR62 HB12
              go_wp2_with fail
              refine (samePends_any (Reads.of_own HP23.out) (Reads.of_own HR23.out) (by omega) (by omega)).mono ?_
              rintro e w24 ⟨rfl, n24, rfl⟩
              rw [decide_eq_true rfl]
              have HO24 := hid (HO23.out.below (bel_drewN _ _ n24))
              have HR24 := hid (own_bel HR23.out (bel_drewN _ _ n24))
              have HP24 := hid (own_bel HP23.out (bel_drewN _ _ n24))
              have HB24 := hid (bel_next HB23.out (bel_drewN _ _ n24))
              clear HO23 HR23 HB23 HP23
              generalize w23.drewN n24 = w24 at HO24 HR24 HB24 HP24 ⊢
              go_wp2_with fail
              refine (pends_any HO24.out.off hpl3).mono ?_
              rintro e w25 ⟨v25, rfl, hrow25, hb25⟩
              dsimp only at hrow25
              obtain ⟨pa25, pc25, rfl⟩ := row_slice hrow25
              have HO25 := hid (HO24.out.below hb25)
              have HR25 := hid (own_bel HR24.out hb25)
              have HB25 := hid (bel_next HB24.out hb25)
              have HP25 := hid hrow25
              clear hb25 hrow25 HO24 HR24 HB24
              go_wp2_with fail
              refine (samePends_any (Reads.of_own HP25.out) (Reads.of_own HR25.out) (by omega) (by omega)).mono ?_
              rintro e w26 ⟨rfl, n26, rfl⟩
              rw [decide_eq_true rfl]
              have HO26 := hid (HO25.out.below (bel_drewN _ _ n26))
              have HR26 := hid (own_bel HR25.out (bel_drewN _ _ n26))
              have HP26 := hid (own_bel HP25.out (bel_drewN _ _ n26))
              have HB26 := hid (bel_next HB25.out (bel_drewN _ _ n26))
              clear HO25 HR25 HB25 HP25
              generalize w25.drewN n26 = w26 at HO26 HR26 HB26 HP26 ⊢
              go_wp2_with fail
              refine (awake11_any _).mono ?_
              rintro e w20 ⟨rfl, hb20⟩
              have HB99 := hid (bel_next HB26.out hb20)
              clear hb20
              go_wp2_with fail
              go_ret
              exact ⟨rfl, HB99.out⟩
            | next e1 e2 hg hn =>
              dsimp only at e1 e2 hg hn
              subst e1 e2 hg
              rw [decide_eq_true rfl]
              have k1 : decide (m3 = m0) = false := decide_eq_false (by omega)
              have j1 : (m3 == m0) = false := by simp; omega
              have k2 : decide (m0 < m3) = true := decide_eq_true hn
              have k4 : decide (m0 ≤ m3) = true := decide_eq_true (by omega)
              clear hn
              go_wp2_with fail
              refine (pends_any HO12.out.off hpl3).mono ?_
              rintro e w27 ⟨v27, rfl, hrow27, hb27⟩
              dsimp only at hrow27
              obtain ⟨pa27, pc27, rfl⟩ := row_slice hrow27
              have HO27 := hid (HO12.out.below hb27)
              have HR27 := hid (own_bel HR62.out hb27)
              have HB27 := hid (bel_next HB12.out hb27)
              have HP27 := hid hrow27
              clear hb27 hrow27 HO12 HR62 HB12
              go_wp2_with fail
              refine (samePends_any (Reads.of_own HP27.out) (Reads.of_own HR27.out) (by omega) (by omega)).mono ?_
              rintro e w28 ⟨rfl, n28, rfl⟩
              rw [decide_eq_true rfl]
              have HO28 := hid (HO27.out.below (bel_drewN _ _ n28))
              have HR28 := hid (own_bel HR27.out (bel_drewN _ _ n28))
              have HP28 := hid (own_bel HP27.out (bel_drewN _ _ n28))
              have HB28 := hid (bel_next HB27.out (bel_drewN _ _ n28))
              clear HO27 HR27 HB27 HP27
              generalize w27.drewN n28 = w28 at HO28 HR28 HB28 HP28 ⊢
              go_wp2_with fail
              refine (pends_any HO28.out.off hpl3).mono ?_
              rintro e w29 ⟨v29, rfl, hrow29, hb29⟩
              dsimp only at hrow29
              obtain ⟨pa29, pc29, rfl⟩ := row_slice hrow29
              have HO29 := hid (HO28.out.below hb29)
              have HR29 := hid (own_bel HR28.out hb29)
              have HB29 := hid (bel_next HB28.out hb29)
              have HP29 := hid hrow29
              clear hb29 hrow29 HO28 HR28 HB28
              go_wp2_with fail
              refine (samePends_any (Reads.of_own HP29.out) (Reads.of_own HR29.out) (by omega) (by omega)).mono ?_
              rintro e w30 ⟨rfl, n30, rfl⟩
              rw [decide_eq_true rfl]
              have HO30 := hid (HO29.out.below (bel_drewN _ _ n30))
              have HR30 := hid (own_bel HR29.out (bel_drewN _ _ n30))
              have HP30 := hid (own_bel HP29.out (bel_drewN _ _ n30))
              have HB30 := hid (bel_next HB29.out (bel_drewN _ _ n30))
              clear HO29 HR29 HB29 HP29
              generalize w29.drewN n30 = w30 at HO30 HR30 HB30 HP30 ⊢
              go_wp2_with fail
              refine (awake11_any _).mono ?_
              rintro e w20 ⟨rfl, hb20⟩
              have HB99 := hid (bel_next HB30.out hb20)
              clear hb20
              go_wp2_with fail
              go_ret
              exact ⟨rfl, HB99.out⟩
            | pend x e1 e2 hg hn =>
              dsimp only at e1 e2 hg hn
              subst e1 hg hn
              rw [decide_eq_true rfl]
              have hne : ¬ (pend3 = pend0) := fun h => by have := congrArg List.length (h.symm.trans e2); simp at this
              have HNE := hid hne
              have hle : pend3.length = pend0.length + 1 := by rw [e2]; simp
              have k1 : decide ((pend3.length : Int) = (pend0.length : Int) + 1) = true := decide_eq_true (by omega)
              have j1 : ((pend3.length : Int) == (pend0.length : Int) + 1) = true := by simp; omega
              have HLE := hid hle
              have E2 := hid e2
              clear hne hle e2
              go_wp2_with fail
              refine (pends_any HO12.out.off hpl3).mono ?_
              rintro e w31 ⟨v31, rfl, hrow31, hb31⟩
              dsimp only at hrow31
              obtain ⟨pa31, pc31, rfl⟩ := row_slice hrow31
              have HO31 := hid (HO12.out.below hb31)
              have HR31 := hid (own_bel HR62.out hb31)
              have HB31 := hid (bel_next HB12.out hb31)
              have HP31 := hid hrow31
              clear hb31 hrow31 HO12 HR62 HB12
              go_wp2_with fail
              refine (samePends_any (Reads.of_own HP31.out) (Reads.of_own HR31.out) (by omega) (by omega)).mono ?_
              rintro e w32 ⟨rfl, n32, rfl⟩
              rw [decide_eq_false HNE.out]
              have HO32 := hid (HO31.out.below (bel_drewN _ _ n32))
              have HR32 := hid (own_bel HR31.out (bel_drewN _ _ n32))
              have HP32 := hid (own_bel HP31.out (bel_drewN _ _ n32))
              have HB32 := hid (bel_next HB31.out (bel_drewN _ _ n32))
              clear HO31 HR31 HB31 HP31
              generalize w31.drewN n32 = w32 at HO32 HR32 HB32 HP32 ⊢
              go_wp2_with fail
              refine (pends_any HO32.out.off hpl3).mono ?_
              rintro e w33 ⟨v33, rfl, hrow33, hb33⟩
              dsimp only at hrow33
              obtain ⟨pa33, pc33, rfl⟩ := row_slice hrow33
              have HO33 := hid (HO32.out.below hb33)
              have HR33 := hid (own_bel HR32.out hb33)
              have HB33 := hid (bel_next HB32.out hb33)
              have HP33 := hid hrow33
              clear hb33 hrow33 HO32 HR32 HB32
              have hpc := (own_cap9 HP33.out).1
              have hpc2 : pend0.length ≤ pc33 := by have := HLE.out; omega
              go_wp2_with fail
              refine (samePends_any (pends_first HP33.out E2.out) (Reads.of_own HR33.out) (by omega) (by omega)).mono ?_
              rintro e w34 ⟨rfl, n34, rfl⟩
              rw [decide_eq_true rfl]
              have HO34 := hid (HO33.out.below (bel_drewN _ _ n34))
              have HR34 := hid (own_bel HR33.out (bel_drewN _ _ n34))
              have HP34 := hid (own_bel HP33.out (bel_drewN _ _ n34))
              have HB34 := hid (bel_next HB33.out (bel_drewN _ _ n34))
              clear HO33 HR33 HB33 HP33
              generalize w33.drewN n34 = w34 at HO34 HR34 HB34 HP34 ⊢
              go_wp2_with fail
              refine (awake11_any _).mono ?_
              rintro e w20 ⟨rfl, hb20⟩
              have HB99 := hid (bel_next HB34.out hb20)
              clear hb20
              go_wp2_with fail
              go_ret
              exact ⟨rfl, HB99.out⟩
            | done hlt hg hn =>
              dsimp only at hlt hg hn
              subst hg hn
              have hne : ¬ (pend3 = pend0) := fun h => by rw [h] at hlt; omega
              have HNE := hid hne
              have k1 : decide ((pend3.length : Int) = (pend0.length : Int) + 1) = false := decide_eq_false (by omega)
              have j1 : ((pend3.length : Int) == (pend0.length : Int) + 1) = false := by simp; omega
              have k2 : decide (pend3.length < pend0.length) = true := decide_eq_true hlt
              clear hne
              cases hcom : decide (com3 = com0) with
              | true =>
                go_wp2_with fail
                refine (pends_any HO12.out.off hpl3).mono ?_
                rintro e w35 ⟨v35, rfl, hrow35, hb35⟩
                dsimp only at hrow35
                obtain ⟨pa35, pc35, rfl⟩ := row_slice hrow35
                have HO35 := hid (HO12.out.below hb35)
                have HR35 := hid (own_bel HR62.out hb35)
                have HB35 := hid (bel_next HB12.out hb35)
                have HP35 := hid hrow35
                clear hb35 hrow35 HO12 HR62 HB12
                go_wp2_with fail
                refine (samePends_any (Reads.of_own HP35.out) (Reads.of_own HR35.out) (by omega) (by omega)).mono ?_
                rintro e w36 ⟨rfl, n36, rfl⟩
                rw [decide_eq_false HNE.out]
                have HO36 := hid (HO35.out.below (bel_drewN _ _ n36))
                have HR36 := hid (own_bel HR35.out (bel_drewN _ _ n36))
                have HP36 := hid (own_bel HP35.out (bel_drewN _ _ n36))
                have HB36 := hid (bel_next HB35.out (bel_drewN _ _ n36))
                clear HO35 HR35 HB35 HP35
                generalize w35.drewN n36 = w36 at HO36 HR36 HB36 HP36 ⊢
                go_wp2_with fail
                refine (pends_any HO36.out.off hpl3).mono ?_
                rintro e w37 ⟨v37, rfl, hrow37, hb37⟩
                dsimp only at hrow37
                obtain ⟨pa37, pc37, rfl⟩ := row_slice hrow37
                have HO37 := hid (HO36.out.below hb37)
                have HR37 := hid (own_bel HR36.out hb37)
                have HB37 := hid (bel_next HB36.out hb37)
                have HP37 := hid hrow37
                clear hb37 hrow37 HO36 HR36 HB36
                go_wp2_with fail
                refine (awake11_any _).mono ?_
                rintro e w20 ⟨rfl, hb20⟩
                have HB99 := hid (bel_next HB37.out hb20)
                clear hb20
                go_wp2_with fail
                go_ret
                exact ⟨rfl, HB99.out⟩
              | false =>
                go_wp2_with fail
                refine (pends_any HO12.out.off hpl3).mono ?_
                rintro e w38 ⟨v38, rfl, hrow38, hb38⟩
                dsimp only at hrow38
                obtain ⟨pa38, pc38, rfl⟩ := row_slice hrow38
                have HO38 := hid (HO12.out.below hb38)
                have HR38 := hid (own_bel HR62.out hb38)
                have HB38 := hid (bel_next HB12.out hb38)
                have HP38 := hid hrow38
                clear hb38 hrow38 HO12 HR62 HB12
                go_wp2_with fail
                refine (awake11_any _).mono ?_
                rintro e w20 ⟨rfl, hb20⟩
                have HB99 := hid (bel_next HB38.out hb20)
                clear hb20
                go_wp2_with fail
                go_ret
                exact ⟨rfl, HB99.out⟩
end Go.Proofs.YtjodkcjlipecdaaGreatDoor
