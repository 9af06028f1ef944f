/-
  seglog: Fetch: the walk. Conditions: texts that fit.
-/
import Derived.Test.YtnibpknhpjcamaaGreatDoorLogG
import Derived.Test.YtnibpknhpjcamaaGreatDoorRangeB
import Derived.Test.YtnibpknhpjcamaaGreatDoorRound
import Derived.Deep.RegionHeld3
import Derived.Deep.CutRange
import Derived.Deep.DeepCutAuto
set_option maxRecDepth 100000
namespace Go.Proofs.YtnibpknhpjcamaaGreatDoor
open Go.RowKit
attribute [local go_sem] Oper.semAt_some

/-- Entries are told, from an offset on, so many at most: what has been told, and whether it is enough. -/
def fetchSeg (off : Int) (most : Nat) : List (Nat × Ent) → List Ent → List Ent × Bool
  | [], out => (out, false)
  | y :: l, out =>
    let out' := if off < y.2.base + y.2.n then out ++ [y.2] else out
    if out'.length = most then (out', true) else fetchSeg off most l out'

def fetchAll (D : PDisk) (name : List UInt8) (off : Int) (most : Nat) : List PSeg → List Ent → List Ent × Int
  | [], out => (out, 0)
  | x :: r, out =>
    if (∃ y, r.head? = some y ∧ y.base ≤ off) then fetchAll D name off most r out
    else
      let rd := D.read (segName name x.base)
      if rd.2 ≠ 0 then ([], rd.2)
      else
        let res := fetchSeg off most (rowL (rd.1.drop (fromL off x.marks).toNat)) out
        if res.2 then (res.1, 0) else fetchAll D name off most r res.1

def PLog.fetch (L : PLog) (D : PDisk) (off most : Int) : List Ent × Int :=
  if most < 1 ∨ 32 < most then ([], 1) else if L.e ≠ 0 then ([], L.e) else if off < L.first ∨ L.next < off then ([], 6)
  else fetchAll D L.name off most.toNat L.segs []

/-- What Fetch leaves. -/
def FetchPost (r : List Ent × Int) (w : World) (e : Ending) (w' : World) : Prop :=
  ∃ v, e = .returned (.tuple #[v, .int .i64 r.2]) ∧ w'.ownsRow w.heap.size 37 3 v r.1.length (entCells r.1) ∧ Below w.heap.size w w'

/-- A frame of 125 slots. -/
theorem frame125 (t : Array Value) (h : t.size = 125) : ∃ z : Nat → Value, t = #[z 0, z 1, z 2, z 3, z 4, z 5, z 6, z 7, z 8, z 9, z 10, z 11, z 12, z 13, z 14, z 15, z 16, z 17, z 18, z 19, z 20, z 21, z 22, z 23, z 24, z 25, z 26, z 27, z 28, z 29, z 30, z 31, z 32, z 33, z 34, z 35, z 36, z 37, z 38, z 39, z 40, z 41, z 42, z 43, z 44, z 45, z 46, z 47, z 48, z 49, z 50, z 51, z 52, z 53, z 54, z 55, z 56, z 57, z 58, z 59, z 60, z 61, z 62, z 63, z 64, z 65, z 66, z 67, z 68, z 69, z 70, z 71, z 72, z 73, z 74, z 75, z 76, z 77, z 78, z 79, z 80, z 81, z 82, z 83, z 84, z 85, z 86, z 87, z 88, z 89, z 90, z 91, z 92, z 93, z 94, z 95, z 96, z 97, z 98, z 99, z 100, z 101, z 102, z 103, z 104, z 105, z 106, z 107, z 108, z 109, z 110, z 111, z 112, z 113, z 114, z 115, z 116, z 117, z 118, z 119, z 120, z 121, z 122, z 123, z 124] ∧ ∀ i, t.getD i undef = z i := by
  refine ⟨fun i => t.getD i undef, ?_, fun _ => rfl⟩
  have e : t = ((List.range 125).map fun i => t.getD i undef).toArray := by
    apply Array.ext
    · simp [h]
    · intro i h1 h2
      simp [h1]
  exact e


/-- Calls behind that did nothing. -/
theorem leaves_collected {P : Program} {fn : Func} {tmps : Array Value} {R : Ending → World → Prop} (v : Value) : ∀ (ks : List Nat) (W : World), (∀ k ∈ ks, W.heap[k]? = some (.deferred (some []))) → ks.Nodup →
    (∀ W', Fr (fun k => k ∈ ks) W W' → (results fn tmps).run P W' = .ok v W' ∧ R (.returned v) W') →
    LeavesInM Fence.wide 9 P fn tmps R (ks.map fun k => { target := .collected k, args := #[] }) .returning W
  | [], W, _, _, h => ⟨v, h W (Fr.refl _ _)⟩
  | k :: ks, W, hD, hn, h => by
    refine ⟨by simp, .inl ⟨_, _, rfl, run_takeDeferred (b := k) (hD k (by simp)), ?_⟩⟩
    have hput : Fr (fun j => j = k) W (W.putObj k (.deferred none)) := fr_putObj _ _ _ rfl
    have hnn := List.nodup_cons.1 hn
    refine leaves_collected v ks _ (fun j hj => ?_) hnn.2 (fun W' hf => h W' ?_)
    · have hlt : j < W.heap.size := (Array.getElem?_eq_some_iff.1 (hD j (by simp [hj]))).1
      rw [hput.block j hlt (fun e => hnn.1 (e ▸ hj))]
      exact hD j (by simp [hj])
    · exact (hput.mono (fun j _ e => by simp [e])).trans (hf.mono (fun j _ e => by simp [e]))

theorem PDisk.read_len {D : PDisk} {n : Int} (h : D.WF n) (name : List UInt8) : (D.read name).1.length ≤ 2097152 := by
  unfold PDisk.read
  split
  · simp
  · cases hl : D.look name with
    | none => simp
    | some f =>
      have := h.lens (PDisk.look_some hl).1
      simp only [List.length_append]; omega

theorem takeEnt_okF {l : List UInt8} {e : Ent} {r : List UInt8} (h : takeEnt l = some (e, r)) : e.ok := by
  unfold takeEnt at h
  split at h
  · cases h
  · split at h
    · cases h
    · split at h
      · cases h
      · split at h
        · cases h
        · rename_i e' he
          simp only [Option.some.injEq, Prod.mk.injEq] at h
          obtain ⟨rfl, _⟩ := h
          unfold entOf at he
          split at he
          · split at he
            · rename_i hok
              simp only [Option.some.injEq] at he
              rw [← he]; exact hok
            · cases he
          · cases he

theorem rowL_okF (l : List UInt8) : ∀ n, l.length ≤ n → ∀ p ∈ rowL l, p.2.ok := by
  intro n
  induction n generalizing l with
  | zero =>
    intro h p hp
    cases ht : takeEnt l with
    | none => rw [rowL_none ht] at hp; cases hp
    | some x => have := takeEnt_len l x.1 x.2 ht; omega
  | succ n ih =>
    intro h p hp
    cases ht : takeEnt l with
    | none => rw [rowL_none ht] at hp; cases hp
    | some x =>
      have hl := takeEnt_len l x.1 x.2 ht
      rw [rowL_some (e := x.1) (r := x.2) ht] at hp
      rcases List.mem_cons.1 hp with rfl | hp
      · exact takeEnt_okF ht
      · exact ih x.2 (by omega) p hp

/-- What Fetch has in memory: its boxes, and what is to be told. -/
structure FetchM (w : World) (p1 p2 p3 p4 : Nat) (off most : Int) (out : List Ent) (W : World) : Prop where
  b0 : Blk W w.heap.size #[.int .i64 off] 3
  b1 : Blk W p1 #[.int .i64 most] 3
  b2 : Blk W p2 #[.slice none 0 0] 25
  b3 : Blk W p3 #[.int .i64 0] 31
  own : ∃ v, Blk W p4 #[v] 25 ∧ W.ownsRow w.heap.size 37 3 v out.length (entCells out)
  bel : Below w.heap.size w W
  places : p1 = w.heap.size + 1 ∧ p2 = w.heap.size + 2 ∧ p3 = w.heap.size + 3 ∧ p4 = w.heap.size + 4

theorem FetchM.fr {w : World} {p1 p2 p3 p4 : Nat} {off most : Int} {out : List Ent} {A B : World} (h : FetchM w p1 p2 p3 p4 off most out A) (hf : Fr (fun _ => False) A B) : FetchM w p1 p2 p3 p4 off most out B := by
  obtain ⟨b0, b1, b2, b3, ⟨v, b4, ho⟩, hb, hp⟩ := h
  exact ⟨b0.fr hf (fun h => h), b1.fr hf (fun h => h), b2.fr hf (fun h => h), b3.fr hf (fun h => h), ⟨v, b4.fr hf (fun h => h), row_fr ho hf (fun _ _ h => h)⟩, hb.trans (hf.to_below hb.size (fun _ _ h => h)), hp⟩

/-- Between two rounds of Fetch's range. -/
structure FetchR (w : World) (p1 p2 p3 p4 : Nat) (off most : Int) (ks : List Nat) (bx : Nat) (out : List Ent) (W : World) : Prop where
  b0 : Blk W w.heap.size #[.int .i64 off] 3
  b1 : Blk W p1 #[.int .i64 most] 3
  b2 : Blk W p2 #[.slice none 0 0] 25
  b3 : Blk W p3 #[.int .i64 0] 31
  own : ∃ v, Blk W p4 #[v] 25 ∧ W.ownsRow w.heap.size 37 3 v out.length (entCells out) ∧ ∀ j, v.ownBlock = some j → j < bx ∨ bx + 3 ≤ j
  bel : Below w.heap.size w W
  places : p1 = w.heap.size + 1 ∧ p2 = w.heap.size + 2 ∧ p3 = w.heap.size + 3 ∧ p4 = w.heap.size + 4 ∧ w.heap.size + 5 ≤ bx
  dead : ∀ j ∈ ks, W.heap[j]? = some (.deferred (some [])) ∧ w.heap.size ≤ j ∧ j < bx

/-- Fetch has told enough. -/
structure FetchX (w : World) (p2 p3 : Nat) (ks : List Nat) (bx : Nat) (out : List Ent) (W : World) : Prop where
  own : ∃ v, Blk W p2 #[v] 25 ∧ W.ownsRow w.heap.size 37 3 v out.length (entCells out) ∧ ∀ j, v.ownBlock = some j → j < bx ∨ bx + 3 ≤ j
  b3 : Blk W p3 #[.int .i64 0] 31
  bel : Below w.heap.size w W
  places : p2 = w.heap.size + 2 ∧ p3 = w.heap.size + 3 ∧ w.heap.size + 5 ≤ bx
  dead : ∀ j ∈ ks, W.heap[j]? = some (.deferred (some [])) ∧ w.heap.size ≤ j ∧ j < bx

theorem dead_fr {w : World} {ks : List Nat} {bx : Nat} {A B : World} {S : Nat → Prop} (h : ∀ j ∈ ks, A.heap[j]? = some (.deferred (some [])) ∧ w.heap.size ≤ j ∧ j < bx) (hf : Fr S A B) (hS : ∀ j ∈ ks, ¬ S j) : ∀ j ∈ ks, B.heap[j]? = some (.deferred (some [])) ∧ w.heap.size ≤ j ∧ j < bx := by
  intro j hj
  obtain ⟨h1, h2⟩ := h j hj
  exact ⟨(hf.block j (Array.getElem?_eq_some_iff.1 h1).1 (hS j hj)).trans h1, h2⟩

theorem FetchR.keep {w : World} {p1 p2 p3 p4 : Nat} {off most : Int} {ks : List Nat} {bx n : Nat} {out : List Ent} {A B : World} (h : FetchR w p1 p2 p3 p4 off most ks bx out A) (hn : n = bx + 1) (hf : Fr (fun k => k = bx ∨ k = n ∨ k = n + 1) A B) : FetchR w p1 p2 p3 p4 off most ks bx out B := by
  obtain ⟨b0, b1, b2, b3, ⟨v, b4, ho, hv⟩, hb, hp, hd⟩ := h
  exact ⟨b0.fr hf (by omega), b1.fr hf (by omega), b2.fr hf (by omega), b3.fr hf (by omega), ⟨v, b4.fr hf (by omega), row_fr ho hf (fun k hk => by have := hv k hk; omega), hv⟩, hb.trans (hf.to_below hb.size (fun k hk => by omega)), hp, dead_fr hd hf (fun j hj => by have := (hd j hj).2; omega)⟩

theorem FetchX.keep {w : World} {p2 p3 : Nat} {ks : List Nat} {bx n : Nat} {out : List Ent} {A B : World} (h : FetchX w p2 p3 ks bx out A) (hn : n = bx + 1) (hf : Fr (fun k => k = bx ∨ k = n ∨ k = n + 1) A B) : FetchX w p2 p3 ks bx out B := by
  obtain ⟨⟨v, b4, ho, hv⟩, b3, hb, hp, hd⟩ := h
  exact ⟨⟨v, b4.fr hf (by omega), row_fr ho hf (fun k hk => by have := hv k hk; omega), hv⟩, b3.fr hf (by omega), hb.trans (hf.to_below hb.size (fun k hk => by omega)), hp, dead_fr hd hf (fun j hj => by have := (hd j hj).2; omega)⟩

theorem fetchSeg_step (off : Int) (most : Nat) (m : Nat) (y : Ent) (l : List (Nat × Ent)) (out : List Ent) : fetchSeg off most ((m, y) :: l) out =
    if (if off < y.base + y.n then out ++ [y] else out).length = most then ((if off < y.base + y.n then out ++ [y] else out), true) else fetchSeg off most l (if off < y.base + y.n then out ++ [y] else out) := by
  rw [fetchSeg]

theorem own_kind_ne {W : World} {base : Nat} {e : TypeId} {size : Nat} {v : Value} {n : Nat} {xs : List Value} (h : W.ownsRow base e size v n xs) {b : Nat} {c : Array Value} {T : TypeId} (hb : Blk W b c T) (hne : T ≠ e) : v.ownBlock ≠ some b := by
  intro he
  obtain ⟨c', fz, hc⟩ := Lib.ownsRow_kind h b he
  unfold Blk at hb
  rw [hb] at hc
  simp only [Option.some.injEq, Obj.cells.injEq] at hc
  exact hne hc.2.1

theorem own_dead_ne {W : World} {base : Nat} {e : TypeId} {size : Nat} {v : Value} {n : Nat} {xs : List Value} (h : W.ownsRow base e size v n xs) {b : Nat} {o : Option (List Deferred)} (hb : W.heap[b]? = some (.deferred o)) : v.ownBlock ≠ some b := by
  intro he
  obtain ⟨c', fz, hc⟩ := Lib.ownsRow_kind h b he
  rw [hb] at hc
  cases hc

/-- An entry more is to be told. -/
theorem FetchR.push {w : World} {p1 p2 p3 p4 : Nat} {off most : Int} {ks : List Nat} {bx : Nat} {o : List Ent} {W7 W8 : World} {oo : Obj} {v v' : Value} (h : FetchR w p1 p2 p3 p4 off most ks bx o W7)
    (hb4 : Blk W7 p4 #[v] 25) (ho : W7.ownsRow w.heap.size 37 3 v o.length (entCells o)) (hv : ∀ j, v.ownBlock = some j → j < bx ∨ bx + 3 ≤ j) (hbx : bx + 3 ≤ W7.heap.size) (y : Ent)
    (hown : W8.ownsRow w.heap.size 37 3 v' (o.length + 1) (entCells o ++ [.int .i64 y.base, .int .i64 y.n, .string (bs y.text)])) (hg : (W7.alloc oo).grownBy W8 v.ownBlock) (hat : v'.ownBlock = v.ownBlock ∨ v'.ownBlock = some (W7.alloc oo).heap.size) :
    FetchR w p1 p2 p3 p4 off most ks bx (o ++ [y]) (W8.setCell ⟨p4, 0, none⟩ v') ∧ Fr (fun k => k = p4 ∨ v.ownBlock = some k) W7 (W8.setCell ⟨p4, 0, none⟩ v') ∧ Fr (fun k => v.ownBlock = some k) W7 W8 ∧ Blk (W8.setCell ⟨p4, 0, none⟩ v') p4 #[v'] 25 := by
  obtain ⟨b0, b1, b2, b3, _, hb, hp, hd⟩ := h
  have hfy : Fr (fun k => v.ownBlock = some k) W7 (W7.alloc oo) := (Fr.refl _ W7).alloc _
  have hf1 : Fr (fun k => v.ownBlock = some k) W7 W8 := ⟨hg.os.trans hfy.os, hg.tape.trans hfy.tape, hg.output.trans hfy.output, Nat.le_trans hfy.size hg.size, fun k hk hn => (hg.block k (Nat.lt_of_lt_of_le hk hfy.size) (fun e => hn e.symm)).trans (hfy.block k hk hn)⟩
  have hf2 : Fr (fun k => k = p4 ∨ v.ownBlock = some k) W7 (W8.setCell ⟨p4, 0, none⟩ v') := Fr.setCell (p := ⟨p4, 0, none⟩) (hf1.mono (fun _ _ e => .inr e)) (.inl (.inl rfl)) _
  have n4 := own_kind_ne ho hb4 (by decide)
  have b4 := (hb4.fr hf1 n4).set 0 v'
  have hlt4 := hb4.lt
  refine ⟨⟨b0.fr hf2 (fun e => e.elim (by omega) (own_kind_ne ho b0 (by decide))), b1.fr hf2 (fun e => e.elim (by omega) (own_kind_ne ho b1 (by decide))), b2.fr hf2 (fun e => e.elim (by omega) (own_kind_ne ho b2 (by decide))), b3.fr hf2 (fun e => e.elim (by omega) (own_kind_ne ho b3 (by decide))),
    ⟨v', b4, ?_, ?_⟩, ?_, hp, dead_fr hd hf2 (fun j hj e => e.elim (fun e => by
      have h1 := (hd j hj).1
      rw [e] at h1
      unfold Blk at hb4
      rw [hb4] at h1
      cases h1) (own_dead_ne ho (hd j hj).1))⟩, hf2, hf1, b4⟩
  · have e1 : (o ++ [y]).length = o.length + 1 := by simp
    have e2 : entCells (o ++ [y]) = entCells o ++ [.int .i64 y.base, .int .i64 y.n, .string (bs y.text)] := by unfold entCells; rw [List.flatMap_append]; rfl
    rw [e1, e2]
    refine row_fr hown (Fr.setCell (S := fun k => k = p4) (p := ⟨p4, 0, none⟩) (Fr.refl _ W8) (.inl rfl) _) (fun k hk e => ?_)
    subst e
    rcases hat with h | h
    · exact n4 (h.symm.trans hk)
    · rw [hk] at h
      injection h with h
      simp at h
      omega
  · intro j hj
    rcases hat with h | h
    · exact hv j (h.symm.trans hj)
    · rw [hj] at h
      injection h with h
      simp at h
      omega
  · refine (hb.trans (hf1.to_below hb.size (fun k hk e => ?_))).setCell (by show w.heap.size ≤ p4; omega) _
    have := (ho.lt k e).1
    omega

/-- Enough has been told. -/
theorem FetchR.done {w : World} {p1 p2 p3 p4 : Nat} {off most : Int} {ks : List Nat} {bx : Nat} {o : List Ent} {W : World} (h : FetchR w p1 p2 p3 p4 off most ks bx o W) {v : Value} (hb4 : Blk W p4 #[v] 25) :
    FetchX w p2 p3 ks bx o ((W.setCell ⟨p2, 0, none⟩ v).setCell ⟨p3, 0, none⟩ (.int .i64 0)) ∧ Fr (fun k => k = p2 ∨ k = p3) W ((W.setCell ⟨p2, 0, none⟩ v).setCell ⟨p3, 0, none⟩ (.int .i64 0)) := by
  obtain ⟨b0, b1, b2, b3, ⟨v1, c4, ho, hv⟩, hb, hp, hd⟩ := h
  have hvv : v1 = v := by
    have := (hb4.inj c4).1
    simpa using this.symm
  subst hvv
  have hf : Fr (fun k => k = p2 ∨ k = p3) W ((W.setCell ⟨p2, 0, none⟩ v1).setCell ⟨p3, 0, none⟩ (.int .i64 0)) := Fr.setCell (p := ⟨p3, 0, none⟩) (Fr.setCell (p := ⟨p2, 0, none⟩) (Fr.refl _ W) (.inl (.inl rfl)) _) (.inl (.inr rfl)) _
  have hnd : ∀ (b : Nat) (c : Array Value) (T : TypeId), Blk W b c T → ∀ j ∈ ks, j ≠ b := by
    rintro b c T hB j hj rfl
    have := (hd j hj).1
    unfold Blk at hB
    rw [hB] at this
    cases this
  refine ⟨⟨⟨v1, (b2.set 0 v1).other (by omega) 0 _, row_fr ho hf (fun k hk e => ?_), hv⟩, (b3.other (by omega) 0 v1).set 0 _, (hb.setCell (by show w.heap.size ≤ p2; omega) _).setCell (by show w.heap.size ≤ p3; omega) _, ⟨hp.2.1, hp.2.2.1, hp.2.2.2.2⟩, dead_fr hd hf (fun j hj e => e.elim (hnd _ _ _ b2 j hj) (hnd _ _ _ b3 j hj))⟩, hf⟩
  rcases e with rfl | rfl
  · exact own_kind_ne ho b2 (by decide) hk
  · exact own_kind_ne ho b3 (by decide) hk

/-- Between two rounds of Fetch's loop. -/
structure FetchJ (w : World) (l : Nat) (p1 p2 p3 p4 : Nat) (L : PLog) (D : PDisk) (off most : Int) (sv : Value) (k : Nat) (ks : List Nat) (out : List Ent) (n : Nat) (a : Act) (W : World) : Prop where
  size : a.tmps.size = 125
  s0 : a.tmps.getD 0 undef = .pointer (some ⟨l, 0, none⟩)
  s1 : a.tmps.getD 1 undef = .int .i64 off
  s2 : a.tmps.getD 2 undef = .int .i64 most
  s4 : a.tmps.getD 4 undef = .pointer (some ⟨w.heap.size, 0, none⟩)
  s5 : a.tmps.getD 5 undef = .pointer (some ⟨p1, 0, none⟩)
  s6 : a.tmps.getD 6 undef = .pointer (some ⟨p2, 0, none⟩)
  s7 : a.tmps.getD 7 undef = .pointer (some ⟨p3, 0, none⟩)
  s8 : a.tmps.getD 8 undef = .pointer (some ⟨p4, 0, none⟩)
  s54 : a.tmps.getD 54 undef = sv
  s55 : a.tmps.getD 55 undef = .int .i64 L.segs.length
  s56 : a.tmps.getD 56 undef = .int .i64 k
  defers : a.defers = ks.map fun k => { target := .collected k, args := #[] }
  num : n = L.segs.length - k
  kle : k ≤ L.segs.length
  mem : FetchM w p1 p2 p3 p4 off most out W
  few : (out.length : Int) < most
  same : fetchAll D L.name off most.toNat L.segs [] = fetchAll D L.name off most.toNat (L.segs.drop k) out
  dead : ∀ j ∈ ks, W.heap[j]? = some (.deferred (some [])) ∧ w.heap.size ≤ j
  nodup : ks.Nodup

/-- The end of Fetch. -/
theorem fetch_fin {w W : World} (tm : Array Value) (ks : List Nat) (v : Value) (r : List Ent × Int) (h6 : tm.getD 6 undef = .pointer (some ⟨w.heap.size + 2, 0, none⟩)) (h7 : tm.getD 7 undef = .pointer (some ⟨w.heap.size + 3, 0, none⟩))
    (b2 : Blk W (w.heap.size + 2) #[v] 25) (b3 : Blk W (w.heap.size + 3) #[.int .i64 r.2] 31) (ho : W.ownsRow w.heap.size 37 3 v r.1.length (entCells r.1)) (hb : Below w.heap.size w W)
    (hk : ∀ k ∈ ks, W.heap[k]? = some (.deferred (some [])) ∧ w.heap.size ≤ k) (hn : ks.Nodup) :
    bodyPostM Fence.wide 9 Tryz.prog Tryz.f14 (FetchPost r w) .ret { tmps := tm, defers := ks.map fun k => { target := .collected k, args := #[] } } W := by
  obtain ⟨ad, cp, rfl⟩ := row_slice ho
  refine leaves_collected (.tuple #[.slice ad r.1.length cp, .int .i64 r.2]) ks W (fun k hk' => (hk k hk').1) hn (fun W' hf => ?_)
  have hnk : ∀ (b : Nat) (c : Array Value) (T : TypeId), Blk W b c T → ¬ b ∈ ks := by
    intro b c T hB hm
    have := (hk b hm).1
    unfold Blk at hB
    rw [hB] at this
    cases this
  have e2 := (b2.fr hf (hnk _ _ _ b2)).cell (i := 0) (v := .slice ad r.1.length cp) rfl
  have e3 := (b3.fr hf (hnk _ _ _ b3)).cell (i := 0) (v := .int .i64 r.2) rfl
  refine ⟨?_, _, rfl, row_fr ho hf (fun k hk2 hm => ?_), hb.trans (hf.to_below hb.size (fun k hlt hm => by have := (hk k hm).2; omega))⟩
  · have g6 : tm[6]?.getD undef = .pointer (some ⟨w.heap.size + 2, 0, none⟩) := by simpa using h6
    have g7 : tm[7]?.getD undef = .pointer (some ⟨w.heap.size + 3, 0, none⟩) := by simpa using h7
    simp [results, Tryz.results14, go_sem, g6, g7, e2, e3]
  · obtain ⟨c, fz, hc⟩ := Lib.ownsRow_kind ho k hk2
    have := (hk k hm).1
    rw [hc] at this
    cases this

/-- Fetch ends with an error. -/
theorem fetch_bad {w W : World} {p1 p2 p3 p4 : Nat} {off most : Int} {out : List Ent} (h : FetchM w p1 p2 p3 p4 off most out W) (tm : Array Value) (ks : List Nat) (r : List Ent × Int) (e : Int) (hr : r = ([], e))
    (h6 : tm.getD 6 undef = .pointer (some ⟨p2, 0, none⟩)) (h7 : tm.getD 7 undef = .pointer (some ⟨p3, 0, none⟩)) (hk : ∀ k ∈ ks, W.heap[k]? = some (.deferred (some [])) ∧ w.heap.size ≤ k) (hn : ks.Nodup) :
    bodyPostM Fence.wide 9 Tryz.prog Tryz.f14 (FetchPost r w) .ret { tmps := tm, defers := ks.map fun k => { target := .collected k, args := #[] } } ((W.setCell ⟨p2, 0, none⟩ (.slice none 0 0)).setCell ⟨p3, 0, none⟩ (.int .i64 e)) := by
  obtain ⟨b0, b1, b2, b3, _, hb, e1, e2, e3, e4⟩ := h
  subst hr
  have hnd : ∀ (b : Nat) (c : Array Value) (T : TypeId), Blk W b c T → ¬ b ∈ ks := by
    intro b c T hB hm
    have := (hk b hm).1
    unfold Blk at hB
    rw [hB] at this
    cases this
  have n2 := hnd _ _ _ b2
  have n3 := hnd _ _ _ b3
  have b2' := (b2.set 0 (.slice none 0 0)).other (b' := p3) (by omega) 0 (.int .i64 e)
  have b3' := (b3.other (b' := p2) (by omega) 0 (.slice none 0 0)).set 0 (.int .i64 e)
  have m2 := n2
  have m3 := n3
  rw [e2] at b2' m2
  rw [e3] at b3' m3
  rw [e2] at b3'
  rw [e3] at b2'
  rw [e2, e3]
  refine fetch_fin tm ks (.slice none 0 0) ([], e) (by rw [h6, e2]) (by rw [h7, e3]) b2' b3' (World.ownsRow_nil _ _ _ _) ((hb.setCell (by simp) _).setCell (by simp) _) (fun k hm => ⟨?_, (hk k hm).2⟩) hn
  rw [Below.heap_setCell _ _ _ _ (by show k ≠ w.heap.size + 3; rintro rfl; exact m3 hm), Below.heap_setCell _ _ _ _ (by show k ≠ w.heap.size + 2; rintro rfl; exact m2 hm)]
  exact (hk k hm).1

set_option maxHeartbeats 4000000 in
theorem fetch_any {w : World} {l d : Nat} {S SD : Nat → Prop} {L : PLog} {D : PDisk} {N : Int} (off most : Int) (h : LogAt w l d S L) (hd : DiskAt w d SD D) (hw : D.WF N) (hwl : L.WF)
    (hpos : ∀ x ∈ L.segs, (D.read (segName L.name x.base)).2 = 0 → 0 ≤ fromL off x.marks ∧ fromL off x.marks ≤ (D.read (segName L.name x.base)).1.length) :
    Calls Tryz.prog 14 #[ptr l, .int .i64 off, .int .i64 most] w (FetchPost (L.fetch D off most) w) := by
  obtain ⟨i0, hi, hz0, hz1, hz2⟩ := info_parts Tryz.infoEntry
  have HL := hid h
  have HD := hid hd
  obtain ⟨ms, sv, h, hS⟩ := h
  obtain ⟨c0, c1, c2, c3, c4, c5, c6⟩ := h.cells
  obtain ⟨ad, cap, rfl, hat⟩ := h.form
  have HAT := hid hat
  have HR := hid h
  have HPOS := hid hpos
  have hlen := hwl.count
  have hll := h.hdr.lt
  clear h hat hd hpos hS
  unfold ptr
  refine (callsIn_wide (n := 9)).1 ?_
  refine callsIn_of_wp_marks Tryz.func14 rfl trivial ?_ rfl
  simp only [Tryz.ntmps14, List.size_toArray, List.length_cons, List.length_nil, Nat.reduceAdd, Nat.reduceSub, Array.replicate_succ, Array.replicate_zero, List.push_toArray, List.append_toArray, List.nil_append, List.cons_append]
  refine wpIn_wide.2 ?_
  go_upto_region 1 with fail
  obtain ⟨W1, hW1⟩ : ∃ W1, (((w.alloc (.cells #[.int .i64 off] 3)).alloc (.cells #[.int .i64 most] 3)).alloc (.cells #[.slice none 0 0] 25)).alloc (.cells #[.int .i64 0] 31) = W1 := ⟨_, rfl⟩
  have hbel : Below w.heap.size w W1 := hW1 ▸ bel_alloc (bel_alloc (bel_alloc (bel_alloc (Below.refl _ _) _) _) _) _
  have hb0 : Blk W1 w.heap.size #[.int .i64 off] 3 := hW1 ▸ (((Blk.new _ _ _).alloc _).alloc _).alloc _
  have hb1 : Blk W1 (w.heap.size + 1) #[.int .i64 most] 3 := by
    have h := ((Blk.new (w.alloc (.cells #[.int .i64 off] 3)) #[.int .i64 most] 3).alloc (.cells #[.slice none 0 0] 25)).alloc (.cells #[.int .i64 0] 31)
    rw [World.size_alloc, hW1] at h; exact h
  have hb2 : Blk W1 (w.heap.size + 2) #[.slice none 0 0] 25 := by
    have h := (Blk.new ((w.alloc (.cells #[.int .i64 off] 3)).alloc (.cells #[.int .i64 most] 3)) #[.slice none 0 0] 25).alloc (.cells #[.int .i64 0] 31)
    rw [World.size_alloc, World.size_alloc, hW1] at h; exact h
  have hb3 : Blk W1 (w.heap.size + 3) #[.int .i64 0] 31 := by
    have h := Blk.new (((w.alloc (.cells #[.int .i64 off] 3)).alloc (.cells #[.int .i64 most] 3)).alloc (.cells #[.slice none 0 0] 25)) #[.int .i64 0] 31
    rw [World.size_alloc, World.size_alloc, World.size_alloc, hW1] at h; exact h
  have hszW : W1.heap.size = w.heap.size + 4 := by rw [← hW1]; simp
  rw [hW1]
  clear hW1
  generalize hp3 : w.heap.size + 1 + 1 + 1 = p3
  generalize hp2 : w.heap.size + 1 + 1 = p2
  generalize hp1 : w.heap.size + 1 = p1
  rw [show w.heap.size + 3 = p3 from hp3] at hb3
  rw [show w.heap.size + 2 = p2 from hp2] at hb2
  rw [show w.heap.size + 1 = p1 from hp1] at hb1
  have HP := hid (And.intro hp1 (And.intro hp2 hp3))
  have n23 : ¬ p2 = p3 := by omega
  have n32 : ¬ p3 = p2 := by omega
  clear hp1 hp2 hp3
  have lift : ∀ (b o : Nat) (v : Value), w.cell? ⟨b, o, none⟩ = some v → W1.cell? ⟨b, o, none⟩ = some v := fun b o v h => (hbel.cell (p := ⟨b, o, none⟩) (World.block_lt_of_cell? w _ h)).trans h
  have d0 := lift _ _ _ c0
  have d1 := lift _ _ _ c1
  have d2 := lift _ _ _ c2
  have d3 := lift _ _ _ c3
  have d4 := lift _ _ _ c4
  have d6 := lift _ _ _ c6
  have x0 := hb0.cell (i := 0) (v := .int .i64 off) rfl
  have x1 := hb1.cell (i := 0) (v := .int .i64 most) rfl
  have f2 := hb2.free 0
  have f3 := hb3.free 0
  have x2 := hb2.cell (i := 0) (v := .slice none 0 0) rfl
  have x3 := hb3.cell (i := 0) (v := .int .i64 0) rfl
  have hlW : l < W1.heap.size := by omega
  have HB := hid (And.intro hb0 (And.intro hb1 (And.intro hb2 (And.intro hb3 hbel))))
  have HLIFT := hid lift
  have HSZ := hid hszW
  clear lift hb0 hb1 hb2 hb3 hbel c0 c1 c2 c3 c4 c5 c6 hszW
  have hbad : ∀ (W : World) (tm : Array Value) (e : Int), L.fetch D off most = ([], e) → Fr (fun _ => False) W1 W → tm.getD 6 undef = .pointer (some ⟨p2, 0, none⟩) → tm.getD 7 undef = .pointer (some ⟨p3, 0, none⟩) →
      bodyPostM Fence.wide 9 Tryz.prog Tryz.f14 (FetchPost (L.fetch D off most) w) .ret { tmps := tm, defers := [] } ((W.setCell ⟨p2, 0, none⟩ (.slice none 0 0)).setCell ⟨p3, 0, none⟩ (.int .i64 e)) := by
    intro W tm e hf hw2 h6 h7
    obtain ⟨_, _, b2, b3, bel⟩ := HB.out
    have b2' := ((b2.fr hw2 (fun h => h)).set 0 (.slice none 0 0)).other (b' := p3) (by omega) 0 (.int .i64 e)
    have b3' := ((b3.fr hw2 (fun h => h)).other (b' := p2) (by omega) 0 (.slice none 0 0)).set 0 (.int .i64 e)
    have hb := bel.trans (hw2.to_below bel.size (fun _ _ h => h))
    obtain ⟨e1, e2, e3⟩ := HP.out
    subst e2 e3
    exact fetch_fin tm [] (.slice none 0 0) (L.fetch D off most) h6 h7 b2' (by rw [hf]; exact b3') (by rw [hf]; exact World.ownsRow_nil _ _ _ _) ((hb.setCell (by simp; omega) _).setCell (by simp; omega) _) (by simp) (by simp)
  have HBAD := hid hbad
  clear hbad
  by_cases hm : most < 1 ∨ 32 < most
  · have HF : Hid (L.fetch D off most = ([], 1)) := hid (by unfold PLog.fetch; rw [if_pos hm])
    rcases hm with hm | hm
    · go_wp2_with fail
      exact HBAD.out W1 _ _ HF.out (Fr.refl _ _) rfl rfl
    · go_wp2_with fail
      exact HBAD.out W1 _ _ HF.out (Fr.refl _ _) rfl rfl
  · have hm1 : 1 ≤ most := by omega
    have hm2 : most ≤ 32 := by omega
    have hm3 : decide (32 < most) = false := by simp; omega
    have hmd : decide (most < 1) = false := by simp; omega
    have HM := hid hm
    clear hm
    by_cases he : L.e = 0
    · rw [he] at d6
      have HE := hid he
      clear he
      by_cases hr : off < L.first ∨ L.next < off
      · have HF : Hid (L.fetch D off most = ([], 6)) := hid (by unfold PLog.fetch; rw [if_neg HM.out, if_neg (fun h => h HE.out), if_pos hr])
        by_cases hr1 : off < L.first
        · have hr1' : decide (off < L.first) = true := by simpa using hr1
          clear hr
          go_wp2_with fail
          go_quiet (fail)
          go_wp2_with fail
          exact HBAD.out (W1.drewN nq) _ _ HF.out ((Fr.refl _ W1).drewN nq) rfl rfl
        · have hr2 : L.next < off := by omega
          have hr1' : decide (off < L.first) = false := by simpa using hr1
          have hr2' : decide (L.next < off) = true := by simpa using hr2
          clear hr hr1
          go_wp2_with fail
          go_quiet (fail)
          go_wp2_with fail
          exact HBAD.out (W1.drewN nq) _ _ HF.out ((Fr.refl _ W1).drewN nq) rfl rfl
      · have hr1 : decide (off < L.first) = false := by simp; omega
        have hr2 : decide (L.next < off) = false := by simp; omega
        have HRR := hid hr
        clear hr
        go_wp2_with fail
        go_quiet (fail)
        go_upto_region 8 with fail
        have hfr2 : Fr (fun _ => False) W1 ((W1.drewN nq).alloc (.cells #[.slice none 0 0] 25)) := ((Fr.refl _ W1).drewN nq).alloc _
        have hb4 : Blk ((W1.drewN nq).alloc (.cells #[.slice none 0 0] 25)) W1.heap.size #[.slice none 0 0] 25 := Blk.new (W1.drewN nq) _ _
        have hd2 : ((W1.drewN nq).alloc (.cells #[.slice none 0 0] 25)).cell? ⟨l, 2, none⟩ = some (.slice ad L.segs.length cap) := (World.cell?_of_block (hfr2.block _ hlW (fun h => h))).trans d2
        have hp4 : W1.heap.size = w.heap.size + 4 := HSZ.out
        generalize (W1.drewN nq).alloc (.cells #[.slice none 0 0] 25) = W2 at *
        generalize W1.heap.size = p4 at *
        have HFETCH : Hid (L.fetch D off most = fetchAll D L.name off most.toNat L.segs []) := hid (by unfold PLog.fetch; rw [if_neg HM.out, if_neg (fun h => h HE.out), if_neg HRR.out])
        have hmem : FetchM w p1 p2 p3 p4 off most [] W2 := by
          obtain ⟨b0, b1, b2, b3, bel⟩ := HB.out
          obtain ⟨e1, e2, e3⟩ := HP.out
          exact ⟨b0.fr hfr2 (fun h => h), b1.fr hfr2 (fun h => h), b2.fr hfr2 (fun h => h), b3.fr hfr2 (fun h => h), ⟨_, hb4, World.ownsRow_nil _ _ _ _⟩, bel.trans (hfr2.to_below bel.size (fun _ _ h => h)), e1.symm, e2.symm, e3.symm, hp4⟩
        have HMEM := hid hmem
        clear hmem hfr2 hb4 hp4 d0 d1 d2 d3 d4 d6 x0 x1 f2 f3 x2 x3 hlW
        go_wp2_with fail
        refine wp_loop_ghost_k (fun n a W => ∃ k ks out, FetchJ w l p1 p2 p3 p4 L D off most (.slice ad L.segs.length cap) k ks out n a W) L.segs.length ⟨0, [], [], rfl, rfl, rfl, rfl, rfl, rfl, rfl, rfl, rfl, rfl, rfl, rfl, rfl, rfl, by omega, HMEM.out, by simp; omega, rfl, by simp, by simp⟩ ?_
        rintro n a W ⟨k, ks, out, hJ⟩ J K hJK hK
        obtain ⟨tm, df⟩ := a
        have hdf := hJ.defers
        simp only at hdf
        subst hdf
        obtain ⟨z, hz, hg⟩ := frame125 tm hJ.size
        have e0 : z 0 = _ := (hg 0).symm.trans hJ.s0
        have e1 : z 1 = _ := (hg 1).symm.trans hJ.s1
        have e2 : z 2 = _ := (hg 2).symm.trans hJ.s2
        have e4 : z 4 = _ := (hg 4).symm.trans hJ.s4
        have e5 : z 5 = _ := (hg 5).symm.trans hJ.s5
        have e6 : z 6 = _ := (hg 6).symm.trans hJ.s6
        have e7 : z 7 = _ := (hg 7).symm.trans hJ.s7
        have e8 : z 8 = _ := (hg 8).symm.trans hJ.s8
        have e54 : z 54 = _ := (hg 54).symm.trans hJ.s54
        have e55 : z 55 = _ := (hg 55).symm.trans hJ.s55
        have e56 : z 56 = _ := (hg 56).symm.trans hJ.s56
        rw [e0, e1, e2, e4, e5, e6, e7, e8, e54, e55, e56] at hz
        subst hz
        have HJ := hid hJ
        obtain ⟨_, _, hout⟩ := hJ.mem.own
        have hbelW := hJ.mem.bel
        have hkle := hJ.kle
        have hfew := hJ.few
        have hwW := hbelW.size
        have x0 := hJ.mem.b0.cell (i := 0) (v := .int .i64 off) rfl
        clear hJ hg hout e0 e1 e2 e4 e5 e6 e7 e8 e54 e55 e56
        by_cases hlt : k < L.segs.length
        · obtain ⟨x, hx⟩ : ∃ x, L.segs[k]? = some x := ⟨_, List.getElem?_eq_getElem hlt⟩
          obtain ⟨u, hu⟩ : ∃ u, ms[k]? = some u := ⟨_, List.getElem?_eq_getElem (by rw [HR.out.len]; exact hlt)⟩
          obtain ⟨g, rfl, b0, b1, b2, b3⟩ := HAT.out k x u hx hu
          obtain ⟨ua, uc, rfl⟩ := row_slice (HR.out.marks k x u hx hu)
          have lift : ∀ (b o : Nat) (v : Value), w.cell? ⟨b, o, none⟩ = some v → W.cell? ⟨b, o, none⟩ = some v := fun b o v h => (hbelW.cell (p := ⟨b, o, none⟩) (World.block_lt_of_cell? w _ h)).trans h
          have d0 := lift _ _ _ b0
          have d1 := lift _ _ _ b1
          have d2 := lift _ _ _ b2
          have d3 := lift _ _ _ b3
          obtain ⟨q0, q1, q2, _⟩ := HR.out.cells
          have r0 := lift _ _ _ q0
          have r1 := lift _ _ _ q1
          have r2 := lift _ _ _ q2
          have hglt : g < W.heap.size := World.block_lt_of_cell? W _ d0
          have hllW : l < W.heap.size := World.block_lt_of_cell? W _ r0
          have hww : w.heap.size < W.heap.size := World.block_lt_of_cell? W _ x0
          have hkw : IntKind.i64.wrap ((k : Int) + 1) = (k : Int) + 1 := IntWalk.i64_in _ (by omega)
          have HX := hid hx
          have HU := hid hu
          have HLW := hid lift
          have HBW := hid hbelW
          clear hx hu b0 b1 b2 b3 q0 q1 q2 lift hbelW
          obtain ⟨skip, hskip⟩ : ∃ skip : Bool, skip = decide (∃ y, L.segs[k + 1]? = some y ∧ y.base ≤ off) := ⟨_, rfl⟩
          have HSKIP := hid hskip
          clear hskip
          go_upto_region 11 with fail
          go_cut [82] from 61 to 82 (fun c wx => c = .bool skip ∧ ∃ m, wx = (W.alloc (.cells #[.int .i64 x.base, .int .i64 x.bytes, .int .i64 x.entries, .slice ua x.marks.length uc] 99)).drewN m)
          case first =>
            by_cases hk1 : k + 1 < L.segs.length
            · have hd1 : decide ((k : Int) + 1 < (L.segs.length : Int)) = true := by simp; omega
              obtain ⟨y, hy⟩ : ∃ y, L.segs[k + 1]? = some y := ⟨_, List.getElem?_eq_getElem hk1⟩
              obtain ⟨u2, hu2⟩ : ∃ u, ms[k + 1]? = some u := ⟨_, List.getElem?_eq_getElem (by rw [HR.out.len]; exact hk1)⟩
              obtain ⟨g', hg', y0, _⟩ := HAT.out (k + 1) y u2 hy hu2
              simp only [Option.some.injEq, Addr.mk.injEq, and_true] at hg'
              subst hg'
              have yy := HLW.out _ _ _ y0
              have hkt : ((k : Int) + 1).toNat = k + 1 := by omega
              have hk0 : (0 : Int) ≤ (k : Int) + 1 := by omega
              have hkl : (k : Int) + 1 < (L.segs.length : Int) := by omega
              have HY := hid hy
              clear hy hu2 y0
              by_cases hyo : y.base ≤ off
              · have hs : skip = true := by rw [HSKIP.out]; simp [HY.out, hyo]
                subst hs
                have hdo : decide (y.base ≤ off) = true := by simpa using hyo
                go_quiet (fail)
                go_wp2_with fail
                go_meet
                exact ⟨rfl, _, rfl⟩
              · have hs : skip = false := by rw [HSKIP.out]; simp [HY.out]; omega
                subst hs
                have hdo : decide (y.base ≤ off) = false := by simpa using hyo
                go_quiet (fail)
                go_wp2_with fail
                go_meet
                exact ⟨rfl, _, rfl⟩
            · have hd1 : decide ((k : Int) + 1 < (L.segs.length : Int)) = false := by simp; omega
              have hs : skip = false := by rw [HSKIP.out, List.getElem?_eq_none (by omega)]; simp
              subst hs
              go_quiet (fail)
              go_wp2_with fail
              go_meet
              exact ⟨rfl, _, rfl⟩
          case rest =>
            obtain ⟨rfl, nq, rfl⟩ := hcut
            have hdrop : L.segs.drop k = x :: L.segs.drop (k + 1) := by
              have h := HX.out
              rw [List.getElem?_eq_getElem hlt] at h
              rw [List.drop_eq_getElem_cons hlt, Option.some.inj h]
            have hhead : (L.segs.drop (k + 1)).head? = L.segs[k + 1]? := by rw [List.head?_drop]
            have HDROP := hid (And.intro hdrop hhead)
            have hfa : Fr (fun _ => False) W ((W.alloc (.cells #[.int .i64 x.base, .int .i64 x.bytes, .int .i64 x.entries, .slice ua x.marks.length uc] 99)).drewN nq) := ((Fr.refl _ W).alloc _).drewN nq
            have hxb : Blk ((W.alloc (.cells #[.int .i64 x.base, .int .i64 x.bytes, .int .i64 x.entries, .slice ua x.marks.length uc] 99)).drewN nq) W.heap.size #[.int .i64 x.base, .int .i64 x.bytes, .int .i64 x.entries, .slice ua x.marks.length uc] 99 := (Blk.new W _ _).drewN nq
            have hlt2 : W.heap.size < ((W.alloc (.cells #[.int .i64 x.base, .int .i64 x.bytes, .int .i64 x.entries, .slice ua x.marks.length uc] 99)).drewN nq).heap.size := hxb.lt
            generalize (W.alloc (.cells #[.int .i64 x.base, .int .i64 x.bytes, .int .i64 x.entries, .slice ua x.marks.length uc] 99)).drewN nq = Wa at *
            have HFA := hid hfa
            have HXB := hid hxb
            clear hdrop hhead hfa hxb
            cases skip with
            | true =>
              have hs : fetchAll D L.name off most.toNat (L.segs.drop k) out = fetchAll D L.name off most.toNat (L.segs.drop (k + 1)) out := by
                obtain ⟨e1, e2⟩ := HDROP.out
                have e3 := of_decide_eq_true HSKIP.out.symm
                rw [e1, fetchAll, if_pos (by rw [e2]; exact e3)]
              have HSAME := hid (HJ.out.same.trans hs)
              clear hs d0 d1 d2 d3 r0 r1 r2
              go_wp2_with fail
              exact ⟨L.segs.length - (k + 1), by have := HJ.out.num; omega, hJK _ _ _ ⟨k + 1, ks, out, rfl, rfl, rfl, rfl, rfl, rfl, rfl, rfl, rfl, rfl, rfl, rfl, rfl, rfl, by omega, HJ.out.mem.fr HFA.out, hfew, HSAME.out, (fun j hj => ⟨(HFA.out.block j (Array.getElem?_eq_some_iff.1 (HJ.out.dead j hj).1).1 (fun h => h)).trans (HJ.out.dead j hj).1, (HJ.out.dead j hj).2⟩), HJ.out.nodup⟩⟩
            | false =>
              have hs : fetchAll D L.name off most.toNat (L.segs.drop k) out = if (D.read (segName L.name x.base)).2 ≠ 0 then ([], (D.read (segName L.name x.base)).2) else
                  if (fetchSeg off most.toNat (rowL ((D.read (segName L.name x.base)).1.drop (fromL off x.marks).toNat)) out).2 then ((fetchSeg off most.toNat (rowL ((D.read (segName L.name x.base)).1.drop (fromL off x.marks).toNat)) out).1, 0)
                  else fetchAll D L.name off most.toNat (L.segs.drop (k + 1)) (fetchSeg off most.toNat (rowL ((D.read (segName L.name x.base)).1.drop (fromL off x.marks).toNat)) out).1 := by
                obtain ⟨e1, e2⟩ := HDROP.out
                have e3 := of_decide_eq_false HSKIP.out.symm
                rw [e1, fetchAll, if_neg (by rw [e2]; exact e3)]
              have HSAME := hid (HJ.out.same.trans hs)
              have hposx := HPOS.out x (List.mem_of_getElem? HX.out)
              have hbasex := hwl.base x (List.mem_of_getElem? HX.out)
              have hname := hwl.name
              have hsl : (segName L.name x.base).length ≤ 1099511627776 := by unfold segName; simp [digs_len]; omega
              have lift : ∀ (b o : Nat) (v : Value), W.cell? ⟨b, o, none⟩ = some v → Wa.cell? ⟨b, o, none⟩ = some v := fun b o v h => (World.cell?_of_block (HFA.out.block b (World.block_lt_of_cell? W _ h) (fun h => h))).trans h
              have a0 := lift _ _ _ r0
              have a1 := lift _ _ _ r1
              have a4 := HXB.out.cell (i := 0) (v := .int .i64 x.base) rfl
              have hdW : DiskAt Wa d SD D := (HD.out.below HBW.out).fr HFA.out (fun _ _ h => h)
              have HDW := hid hdW
              have HPX := hid hposx
              have hllA : l < Wa.heap.size := by have := HFA.out.size; omega
              have hllD : d < Wa.heap.size := by
                obtain ⟨m, fs, h9, _⟩ := hdW
                exact h9.hdr.lt
              clear hs d0 d1 d2 d3 r0 r1 r2 lift hdW hposx
              go_upto_region 12 with fail
              go_cut [83, 11, 12] from 84 to 95 (fun _ v11 v12 wx => v11 = .string (bs (D.read (segName L.name x.base)).1) ∧ v12 = .int .i64 (D.read (segName L.name x.base)).2 ∧ Fr (fun _ => False) Wa wx)
              case first =>
                go_region_held3 (fun w' => w'.cell? ⟨l, 0, none⟩ = some (.pointer (some ⟨d, 0, none⟩)) ∧ w'.cell? ⟨W.heap.size, 0, none⟩ = some (.int .i64 x.base))
                  (go_keep)
                  ((first
                    | (go_at_call 47; refine (file_any l L.name x.base _ ?_ (by omega) hbasex.1 (by omega)).mono ?_; (go_simp); rintro e w2 ⟨rfl, hb2⟩; have d20 : w2.cell? ⟨l, 0, none⟩ = some (.pointer (some ⟨d, 0, none⟩)) := (hb2.cell (by (try simp); omega)).trans (by go_simp); have d22 : w2.cell? ⟨W.heap.size, 0, none⟩ = some (.int .i64 x.base) := (hb2.cell (by (try simp); omega)).trans (by go_simp); have HB2 := hid (show Fr (fun _ => False) Wa w2 from ((Fr.refl _ Wa).drewN 1).below hb2); have hz2 := hb2.size; (try simp at hz2))
                    | (go_at_call 19; refine (read_any d SD D N _ _ (HDW.out.fr HB2.out (fun _ _ h => h)) hw hsl).mono ?_; rintro e w3 ⟨rfl, hb3⟩; have d30 : w3.cell? ⟨l, 0, none⟩ = some (.pointer (some ⟨d, 0, none⟩)) := (hb3.cell (by (try simp); omega)).trans (by go_simp); have d32 : w3.cell? ⟨W.heap.size, 0, none⟩ = some (.int .i64 x.base) := (hb3.cell (by (try simp); omega)).trans (by go_simp); have hz3 := hb3.size; have HB3 := hid (HB2.out.below hb3))))
                go_wp2_with fail
                go_meet
                exact ⟨rfl, rfl, HB3.out⟩
              case rest =>
                rename World => Wb
                obtain ⟨rfl, rfl, hfb⟩ := hcut
                have hfull := HFA.out.trans hfb
                have hmem := HJ.out.mem.fr hfull
                have hdead : ∀ j ∈ ks, Wb.heap[j]? = some (.deferred (some [])) ∧ w.heap.size ≤ j := fun j hj => ⟨(hfull.block j (Array.getElem?_eq_some_iff.1 (HJ.out.dead j hj).1).1 (fun h => h)).trans (HJ.out.dead j hj).1, (HJ.out.dead j hj).2⟩
                have hxb := HXB.out.fr hfb (fun h => h)
                have hmarks : Reads Wb (.slice ua x.marks.length uc) x.marks.length 3 (markCells x.marks) := Reads.of_own (row_fr (row_fr (HR.out.marks k x _ HX.out HU.out) (Fr.of_below (S := fun _ => False) HBW.out) (fun _ _ h => h)) hfull (fun _ _ h => h))
                obtain ⟨x4, y0⟩ : Wb.cell? ⟨w.heap.size, 0, none⟩ = some (.int .i64 off) ∧ True := ⟨hmem.b0.cell rfl, trivial⟩
                have z0 := hxb.cell (i := 0) (v := .int .i64 x.base) rfl
                have z1 := hxb.cell (i := 1) (v := .int .i64 x.bytes) rfl
                have z2 := hxb.cell (i := 2) (v := .int .i64 x.entries) rfl
                have z3 := hxb.cell (i := 3) (v := .slice ua x.marks.length uc) rfl
                have g2 := hmem.b2.cell (i := 0) (v := .slice none 0 0) rfl
                have g3 := hmem.b3.cell (i := 0) (v := .int .i64 0) rfl
                have j2 := hmem.b2.free 0
                have j3 := hmem.b3.free 0
                have HFULL := hid hfull
                have HMEMB := hid hmem
                have HDEAD := hid hdead
                have HMK := hid hmarks
                have hml := (hwl.marks x (List.mem_of_getElem? HX.out)).1
                clear hfull hmem hdead hmarks hxb hfb a0 a1 a4 y0
                have htxl : (D.read (segName L.name x.base)).1.length ≤ 2097152 := PDisk.read_len hw _
                generalize hrd1 : (D.read (segName L.name x.base)).1 = txt at *
                generalize hrd2 : (D.read (segName L.name x.base)).2 = re at *
                clear hrd1 hrd2
                by_cases hre : re = 0
                · have hz : (re != 0) = false := by simpa using hre
                  have hpx := HPX.out hre
                  have HRE := hid hre
                  have hsz : (bs txt).size = txt.length := rfl
                  clear hre
                  go_wp2_with fail
                  refine (from_any _ _ _ off _ x.marks HMK.out (by omega)).mono ?_
                  rintro e w4 ⟨rfl, hb4⟩
                  have hfb4 : Fr (fun _ => False) Wb w4 := Fr.of_below hb4
                  have x5 : w4.cell? ⟨w.heap.size, 0, none⟩ = some (.int .i64 off) := (hb4.cell (p := ⟨w.heap.size, 0, none⟩) (World.block_lt_of_cell? Wb _ x4)).trans x4
                  have HB4 := hid (HFULL.out.trans hfb4)
                  have HM4 := hid (HMEMB.out.fr hfb4)
                  have HB4b := hid hfb4
                  clear hb4 hfb4 z0 z1 z2 z3 g2 g3 j2 j3 x4
                  generalize hfr : fromL off x.marks = lo at *
                  have HLO := hid hfr
                  clear hfr
                  go_wp2_with fail
                  refine (each_any _ _).mono ?_
                  rintro e w5 ⟨rfl, rfl⟩
                  go_wp2_with fail
                  have hext : (bs txt).extract lo.toNat txt.length = bs (txt.drop lo.toNat) := by
                    have h := extract_drop (bs txt) lo.toNat
                    rw [hsz, tl_bs] at h
                    exact h
                  rw [hext]
                  obtain ⟨t, ht⟩ : ∃ t, t = txt.drop lo.toNat := ⟨_, rfl⟩
                  rw [← ht]
                  have htl : t.length ≤ txt.length := by rw [ht, List.length_drop]; omega
                  have hfx : Fr (fun _ => False) w4 (w4.alloc (.cells #[.string (bs t)] 9)) := (Fr.refl _ w4).alloc _
                  have hbx : Blk (w4.alloc (.cells #[.string (bs t)] 9)) w4.heap.size #[.string (bs t)] 9 := Blk.new w4 _ _
                  have hs5 : (w4.alloc (.cells #[.string (bs t)] 9)).heap.size = w4.heap.size + 1 := by simp
                  have HT := hid ht
                  have hR0 : FetchR w p1 p2 p3 p4 off most ks w4.heap.size out (w4.alloc (.cells #[.string (bs t)] 9)) := by
                    obtain ⟨b0, b1, b2, b3, ⟨v, b4, ho⟩, hb, e1, e2, e3, e4⟩ := HM4.out
                    have hlt4 := b4.lt
                    refine ⟨b0.fr hfx (fun h => h), b1.fr hfx (fun h => h), b2.fr hfx (fun h => h), b3.fr hfx (fun h => h), ⟨v, b4.fr hfx (fun h => h), row_fr ho hfx (fun _ _ h => h), fun j hj => .inl (ho.lt j hj).2⟩, hb.trans (hfx.to_below hb.size (fun _ _ h => h)), ⟨e1, e2, e3, e4, by omega⟩, fun j hj => ?_⟩
                    have hdj := HDEAD.out j hj
                    have hbj := HB4b.out.block j (Array.getElem?_eq_some_iff.1 hdj.1).1 (fun h => h)
                    have h4 : w4.heap[j]? = some (.deferred (some [])) := hbj.trans hdj.1
                    have hl4 := (Array.getElem?_eq_some_iff.1 h4).1
                    exact ⟨(hfx.block j hl4 (fun h => h)).trans h4, hdj.2, hl4⟩
                  generalize w4.alloc (.cells #[.string (bs t)] 9) = W5 at *
                  have HR0 := hid hR0
                  have HBX := hid hbx
                  have HS5 := hid hs5
                  clear hext ht hR0
                  refine (wpIn_wide (n := 9)).1 ?_
                  refine wpIn_range (F := Fence.wide) rfl (by decide) (gf := 83) (lb := #[.pointer (some ⟨w4.heap.size, 0, none⟩)]) rfl trivial (enters_of Tryz.func83 (by kernel_rfl) rfl)
                    (each_it _ w4.heap.size t W5 (by omega) hbx) (by rintro k rfl; omega) (fun _ => rfl)
                    (fun pre W6 => ∃ o rest, rowL t = pre ++ rest ∧ fetchSeg off most.toNat (rowL t) out = fetchSeg off most.toNat rest o ∧ (o.length : Int) < most ∧ FetchR w p1 p2 p3 p4 off most ks w4.heap.size o W6)
                    (fun c _ W6 => c = .ret ∧ ∃ o, fetchSeg off most.toNat (rowL t) out = (o, true) ∧ FetchX w p2 p3 ks w4.heap.size o W6)
                    ?hI ?hIx ?h0 ?hround ?hdone ?hstop
                  case hI =>
                    rintro pre A B ⟨o, rest, h1, h2, h3, h4⟩ hf
                    exact ⟨o, rest, h1, h2, h3, h4.keep HS5.out hf⟩
                  case hIx =>
                    rintro c pre A B ⟨h1, o, h2, h3⟩ hf
                    exact ⟨h1, o, h2, h3.keep HS5.out hf⟩
                  case h0 =>
                    intro W6 hb6 _
                    exact ⟨out, rowL t, rfl, rfl, hfew, HR0.out.keep HS5.out (Fr.of_below hb6)⟩
                  case hround =>
                    rintro pre ⟨m, y⟩ W6 hpre ⟨o, rest, h1, h2, h3, ⟨b0, b1, b2, b3, ⟨v, b4, ho, hv⟩, hb, hp, hd⟩⟩ hs2
                    obtain ⟨q, hq⟩ := hpre
                    have hrest : rest = (m, y) :: q := by
                      rw [h1, List.append_assoc] at hq
                      simpa using (List.append_cancel_left hq).symm
                    have hyok : y.ok := rowL_okF t _ (Nat.le_refl _) (m, y) (by rw [← hq]; simp)
                    obtain ⟨y1, y2, y3, y4, y5⟩ := hyok
                    subst hrest
                    rw [fetchSeg_step] at h2
                    have HQ := hid hq
                    have H2 := hid h2
                    have HO := hid ho
                    have HV := hid hv
                    have HDD := hid hd
                    have HPL := hid hp
                    have H3 := hid h3
                    have HBB := hid (And.intro b0 (And.intro b1 (And.intro b2 (And.intro b3 (And.intro b4 hb)))))
                    clear hq h1 h2 ho hv hd hp h3 b0 b1 b2 b3 b4 hb
                    unfold eachEnc
                    gi_wp2
                    refine ⟨Kept.of_fr ((Fr.refl (fun _ => False) W6).alloc _) (fun _ _ h => h), ?_⟩
                    intro W7 hf7
                    have hyb7 : Blk W7 W6.heap.size #[.int .i64 y.base, .int .i64 y.n, .string (bs y.text)] 37 := (Blk.new W6 _ _).fr hf7 (by omega)
                    have hR7 : FetchR w p1 p2 p3 p4 off most ks w4.heap.size o W7 ∧ Blk W7 p4 #[v] 25 ∧ W7.ownsRow w.heap.size 37 3 v o.length (entCells o) := by
                      obtain ⟨b0, b1, b2, b3, b4, hb⟩ := HBB.out
                      have hfy : Fr (fun _ => False) W6 (W6.alloc (.cells #[.int .i64 y.base, .int .i64 y.n, .string (bs y.text)] 37)) := (Fr.refl _ W6).alloc _
                      have hg7 : Fr (fun k => k = W5.heap.size + 1) W6 W7 := (hfy.mono (fun _ _ h => h.elim)).trans hf7
                      have hpl := HPL.out
                      have hs5 := HS5.out
                      have c4 := b4.fr hg7 (by omega)
                      have ho7 := row_fr HO.out hg7 (fun k hk => by have := HV.out k hk; omega)
                      exact ⟨⟨b0.fr hg7 (by omega), b1.fr hg7 (by omega), b2.fr hg7 (by omega), b3.fr hg7 (by omega), ⟨v, c4, ho7, HV.out⟩, hb.trans (hg7.to_below hb.size (fun k hk => by omega)), hpl, dead_fr HDD.out hg7 (fun j hj => by have := (HDD.out j hj).2; omega)⟩, c4, ho7⟩
                    obtain ⟨hR7, b47, ho7⟩ := hR7
                    obtain ⟨vd, vc, rfl⟩ := row_slice ho7
                    have hs7 := hf7.size
                    simp at hs7
                    obtain ⟨c0, c1, c2, _, _, _⟩ := hyb7.c3
                    have a0 := hR7.b0.cell (i := 0) (v := .int .i64 off) rfl
                    have a1 := hR7.b1.cell (i := 0) (v := .int .i64 most) rfl
                    have a2 := hR7.b2.cell (i := 0) (v := .slice none 0 0) rfl
                    have a3 := hR7.b3.cell (i := 0) (v := .int .i64 0) rfl
                    have a4 := b47.cell (i := 0) (v := .slice vd o.length vc) rfl
                    have f2 := hR7.b2.free 0
                    have f3 := hR7.b3.free 0
                    have f4 := b47.free 0
                    have l0 := hR7.b0.lt
                    have l1 := hR7.b1.lt
                    have l2 := hR7.b2.lt
                    have l3 := hR7.b3.lt
                    have l4 := b47.lt
                    have hsum : IntKind.i64.wrap (y.base + y.n) = y.base + y.n := IntWalk.i64_in _ (by omega)
                    have HR7 := hid hR7
                    have HB47 := hid b47
                    have HO7 := hid ho7
                    have HF7 := hid hf7
                    have h33 := H3.out
                    clear hR7 b47 ho7 hf7 hyb7
                    by_cases hoy : off < y.base + y.n
                    · have HOY := hid hoy
                      gi_wp2_with (gi_at_builtin; refine wpListIn_append_at _ rfl _ _ 25 rfl w.heap.size 37 i0 (.agg #[.int .i64 0, .int .i64 0, .string ⟨#[]⟩]) 3 32 Tryz.underlying25 hi hz0 hz1 hz2 rfl (by decide) _ _ _ rfl (HO7.out.alloc _) ⟨W7.heap.size, 0, none⟩ 1 1 [.int .i64 y.base, .int .i64 y.n, .string (bs y.text)] rfl rfl (cells_new _ _ _) ?c2 ?c3 ?c4 ?c5 ?_)
                      case c2 => simp [Value.oneCell']
                      case c3 => unfold maxLen; omega
                      case c4 => omega
                      case c5 => simp; omega
                      intro v' W8 hown' hgrow hat
                      obtain ⟨hR9, hF9, hF8, hB9⟩ := FetchR.push HR7.out HB47.out HO7.out HV.out (by have := HS5.out; omega) y hown' hgrow (hat.imp id (fun e => by rw [e]; simp))
                      obtain ⟨g', cap', rfl⟩ := ownsRow_succ hown'
                      have b48 := HB47.out.fr hF8 (own_kind_ne HO7.out HB47.out (by decide))
                      have e4 := b48.cell (i := 0) (v := .slice vd o.length vc) rfl
                      have k4 := b48.free 0
                      have hl8 := b48.lt
                      have HR9 := hid hR9
                      have HF9 := hid hF9
                      have HB9 := hid hB9
                      clear hown' hgrow hat hR9 hF9 hF8 hB9 b48 a0 a1 a2 a3 a4 f2 f3 f4 c0 c1 c2
                      gi_upto_region 19 with fail
                      have hR9 := HR9.out
                      have hB9 := HB9.out
                      have hF9 := HF9.out
                      clear HR9 HB9 HF9
                      generalize W8.setCell ⟨p4, 0, none⟩ (.slice (some ⟨g', 0, none⟩) (o.length + 1) cap') = W9 at *
                      have a1 := hR9.b1.cell (i := 0) (v := .int .i64 most) rfl
                      have a2 := hR9.b2.cell (i := 0) (v := .slice none 0 0) rfl
                      have a3 := hR9.b3.cell (i := 0) (v := .int .i64 0) rfl
                      have a4 := hB9.cell (i := 0) (v := .slice (some ⟨g', 0, none⟩) (o.length + 1) cap') rfl
                      have f2 := hR9.b2.free 0
                      have f3 := hR9.b3.free 0
                      have l2 := hR9.b2.lt
                      have l3 := hR9.b3.lt
                      have HR9 := hid hR9
                      have HB9 := hid hB9
                      have HF9 := hid hF9
                      clear hR9 hB9 hF9 e4 k4
                      by_cases hom : (o.length : Int) + 1 = most
                      · have hq : ((o.length : Int) + 1 == most) = true := by simpa using hom
                        have HOM := hid hom
                        clear hom
                        gi_wp2
                        obtain ⟨hX, hFX⟩ := HR9.out.done HB9.out
                        refine ⟨?_, rfl, o ++ [y], ?_, hX⟩
                        · refine Kept.of_fr ((HF9.out.mono (S' := fun k => k = p4 ∨ (Value.slice vd o.length vc).ownBlock = some k ∨ k = p2 ∨ k = p3) (fun k _ e => e.elim .inl (fun e => .inr (.inl e)))).trans (hFX.mono (fun k _ e => .inr (.inr e)))) ?_
                          rintro k hk (e | e | e | e)
                          · have := HPL.out; have := HS5.out; omega
                          · have := HV.out k e; have := HS5.out; omega
                          · have := HPL.out; have := HS5.out; omega
                          · have := HPL.out; have := HS5.out; omega
                        · rw [H2.out, if_pos HOY.out, if_pos (by have := HOM.out; simp; omega)]
                      · have hq : ((o.length : Int) + 1 == most) = false := by simpa using hom
                        have HOM := hid hom
                        clear hom
                        gi_wp2
                        refine ⟨?_, o ++ [y], q, by rw [← HQ.out], ?_, ?_, HR9.out⟩
                        · refine Kept.of_fr HF9.out ?_
                          rintro k hk (e | e)
                          · have := HPL.out; have := HS5.out; omega
                          · have := HV.out k e; have := HS5.out; omega
                        · rw [H2.out, if_pos HOY.out, if_neg (by have := HOM.out; simp; omega)]
                        · have := HOM.out; simp; omega
                    · have HOY := hid hoy
                      have hq : ((o.length : Int) == most) = false := by simp; omega
                      gi_wp2
                      refine ⟨Kept.refl _ _, o, q, by rw [← HQ.out], ?_, h33, HR7.out⟩
                      have hno : ¬ off < y.base + y.n := by have := HOY.out; omega
                      have hno2 : ¬ o.length = most.toNat := by omega
                      rw [H2.out, if_neg hno, if_neg hno2]
                  case hdone =>
                    rintro W6 ⟨o, rest, h1, h2, h3, h4⟩ hD
                    have hr0 : rest = [] := by simpa using h1
                    subst hr0
                    have hsame := HSAME.out
                    rw [if_neg (fun h => h HRE.out), ← HT.out, h2] at hsame
                    simp only [fetchSeg, Bool.false_eq_true, if_false] at hsame
                    have HS6 := hid hsame
                    have HR6 := hid h4
                    have HD6 := hid hD
                    have H36 := hid h3
                    clear h1 h2 h3 h4 hD hsame
                    go_wp2_with fail
                    obtain ⟨b0, b1, b2, b3, ⟨v, b4, ho, hv⟩, hb, hp, hd⟩ := HR6.out
                    refine ⟨L.segs.length - (k + 1), by have := HJ.out.num; omega, hJK _ _ _ ⟨k + 1, W5.heap.size :: ks, o, rfl, rfl, rfl, rfl, rfl, rfl, rfl, rfl, rfl, rfl, rfl, rfl, rfl, rfl, by omega, ⟨b0, b1, b2, b3, ⟨v, b4, ho⟩, hb, hp.1, hp.2.1, hp.2.2.1, hp.2.2.2.1⟩, H36.out, HS6.out, ?_, ?_⟩⟩
                    · intro j hj
                      rcases List.mem_cons.1 hj with rfl | hj
                      · exact ⟨HD6.out, by have := HS5.out; omega⟩
                      · exact ⟨(hd j hj).1, (hd j hj).2.1⟩
                    · refine List.nodup_cons.2 ⟨fun hj => ?_, HJ.out.nodup⟩
                      have h9 := (hd _ hj).2.2
                      have h8 := HS5.out
                      omega
                  case hstop =>
                    rintro c pre W6 hpre ⟨rfl, o, h1, ⟨v, b2, ho, hv⟩, b3, hb, hp, hd⟩ hD
                    have hsame := HSAME.out
                    rw [if_neg (fun h => h HRE.out), ← HT.out, h1] at hsame
                    simp only [if_true] at hsame
                    have hres : L.fetch D off most = (o, 0) := HFETCH.out.trans hsame
                    refine wpIn_wide.2 (wp_ret ?_)
                    obtain ⟨e2, e3, e5⟩ := hp
                    rw [e2] at b2
                    rw [e3] at b3
                    refine fetch_fin _ (W5.heap.size :: ks) v (L.fetch D off most) (by rw [← e2]; rfl) (by rw [← e3]; rfl) b2 (by rw [hres]; exact b3) (by rw [hres]; exact ho) hb ?_ ?_
                    · intro j hj
                      rcases List.mem_cons.1 hj with rfl | hj
                      · exact ⟨hD, by have := HS5.out; omega⟩
                      · exact ⟨(hd j hj).1, (hd j hj).2.1⟩
                    · refine List.nodup_cons.2 ⟨fun hj => ?_, HJ.out.nodup⟩
                      have h9 := (hd _ hj).2.2
                      have h8 := HS5.out
                      omega
                · have hz : (re != 0) = true := by simpa using hre
                  have hz2 : (re == 0) = false := by simpa using hre
                  have HRE := hid hre
                  clear hre
                  go_wp2_with fail
                  refine fetch_bad HMEMB.out _ ks _ re ?_ rfl rfl HDEAD.out HJ.out.nodup
                  rw [HFETCH.out, HSAME.out, if_pos HRE.out]
        · obtain rfl : k = L.segs.length := by omega
          have hsame := HJ.out.same
          rw [List.drop_length, fetchAll] at hsame
          have hres : L.fetch D off most = (out, 0) := HFETCH.out.trans hsame
          obtain ⟨b0, b1, b2, b3, ⟨v, b4, ho⟩, hb, e1, e2, e3, e4⟩ := HJ.out.mem
          obtain ⟨vd, vc, rfl⟩ := row_slice ho
          have a2 := b2.cell (i := 0) (v := .slice none 0 0) rfl
          have a3 := b3.cell (i := 0) (v := .int .i64 0) rfl
          have a4 := b4.cell (i := 0) (v := .slice vd out.length vc) rfl
          have f2 := b2.free 0
          have f3 := b3.free 0
          have l2 := b2.lt
          have l3 := b3.lt
          have HALL := hid (And.intro b2 (And.intro b3 (And.intro ho (And.intro hb (And.intro e2 e3)))))
          have HRES := hid hres
          clear hsame hres b0 b1 b2 b3 b4 ho hb e1 e2 e3 e4 hfew
          go_wp2_with fail
          obtain ⟨b2, b3, ho, hb, e2, e3⟩ := HALL.out
          have hdead := HJ.out.dead
          have hf : Fr (fun j => j = p2 ∨ j = p3) W ((W.setCell ⟨p2, 0, none⟩ (.slice vd out.length vc)).setCell ⟨p3, 0, none⟩ (.int .i64 0)) := Fr.setCell (p := ⟨p3, 0, none⟩) (Fr.setCell (p := ⟨p2, 0, none⟩) (Fr.refl _ W) (.inl (.inl rfl)) _) (.inl (.inr rfl)) _
          have hnd : ∀ (b : Nat) (c : Array Value) (T : TypeId), Blk W b c T → ∀ j ∈ ks, j ≠ b := by
            rintro b c T hB j hj rfl
            have := (hdead j hj).1
            unfold Blk at hB
            rw [hB] at this
            cases this
          have m2 := hnd _ _ _ b2
          have m3 := hnd _ _ _ b3
          have b2' := (b2.set 0 (.slice vd out.length vc)).other (b' := p3) (by omega) 0 (.int .i64 0)
          have b3' := (b3.other (b' := p2) (by omega) 0 (.slice vd out.length vc)).set 0 (.int .i64 0)
          have ho' := row_fr ho hf (fun j hj e => e.elim (fun e => own_kind_ne ho b2 (by decide) (e ▸ hj)) (fun e => own_kind_ne ho b3 (by decide) (e ▸ hj)))
          have hb' := (hb.setCell (show w.heap.size ≤ (⟨p2, 0, none⟩ : Addr).block by show w.heap.size ≤ p2; omega) (.slice vd out.length vc)).setCell (show w.heap.size ≤ (⟨p3, 0, none⟩ : Addr).block by show w.heap.size ≤ p3; omega) (.int .i64 0)
          have hdead' : ∀ j ∈ ks, ((W.setCell ⟨p2, 0, none⟩ (.slice vd out.length vc)).setCell ⟨p3, 0, none⟩ (.int .i64 0)).heap[j]? = some (.deferred (some [])) ∧ w.heap.size ≤ j := fun j hj =>
            ⟨(hf.block j (Array.getElem?_eq_some_iff.1 (hdead j hj).1).1 (fun e => e.elim (m2 j hj) (m3 j hj))).trans (hdead j hj).1, (hdead j hj).2⟩
          generalize (W.setCell ⟨p2, 0, none⟩ (.slice vd out.length vc)).setCell ⟨p3, 0, none⟩ (.int .i64 0) = Wf at *
          rw [e2] at b2'
          rw [e3] at b3'
          exact fetch_fin _ ks (.slice vd out.length vc) (L.fetch D off most) (by rw [← e2]; rfl) (by rw [← e3]; rfl) b2' (by rw [HRES.out]; exact b3') (by rw [HRES.out]; exact ho') hb' hdead' HJ.out.nodup
    · have HF : Hid (L.fetch D off most = ([], L.e)) := hid (by unfold PLog.fetch; rw [if_neg HM.out, if_pos he])
      have hen : (L.e != 0) = true := by simpa using he
      have hen2 : (L.e == 0) = false := by simpa using he
      have HE := hid he
      clear he
      go_wp2_with fail
      refine wp_normal ?_
      go_region
      all_goals
        go_wp2_with fail
        exact HBAD.out W1.drew _ _ HF.out ((Fr.refl _ W1).drew) rfl rfl

end Go.Proofs.YtnibpknhpjcamaaGreatDoor
