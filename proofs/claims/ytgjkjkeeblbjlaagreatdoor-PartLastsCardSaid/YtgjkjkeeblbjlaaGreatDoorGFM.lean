/-
  seglog: load: the walk. Conditions: texts that fit.
  A region that draws its order: operations that only read and calls that only draw, ahead of a tail whose order is forced: one walk in the order of the text serves. No conditions of our own.
  seglog: Open on a disk that has no file: the walk.
  The example of chapter 5: what it computes.
-/
import Derived.Test.YtgjkjkeeblbjlaaGreatDoorGEM
import Derived.Deep.RegionLaw
import Derived.Deep.AppendLies
import Derived.Deep.DrawnRows
import Derived.StillTail
import Derived.Deep.QuietTactic
import Derived.BigQuiet
set_option maxRecDepth 100000
namespace Go.Proofs.YtgjkjkeeblbjlaaGreatDoor
open Go.RowKit
attribute [local go_sem ↓] Go.wp_at_zero Go.wp_at_succ
attribute [local go_sem] Oper.semAt_some

theorem Tryz.infoSegL : (Tryz.prog.info? 147).map (fun i => (i.zero, i.size, i.bytes)) = some (some (.agg #[.int .i64 0, .int .i64 0, .int .i64 0, .slice none 0 0]), 4, 48) := by kernel_rfl

/-- The entries that a segment begins with, noted. -/
def loadL (x : PSeg) (next : Int) : List (Nat × Ent) → PSeg × Int
  | [] => (x, next)
  | (n, e) :: r => if e.base ≠ next ∨ 1099511627776 - next < e.n then (x, next) else loadL (x.took e.base n) (next + e.n) r

def PLog.load (L : PLog) (b : Int) (s : List UInt8) : PLog × Int :=
  let r := loadL ⟨b, 0, 0, []⟩ L.next (rowL s)
  ({ L with segs := L.segs ++ [r.1], next := r.2 }, r.1.bytes)

theorem loadL_num (l : List (Nat × Ent)) : ∀ (x : PSeg) (next : Int), (∀ p ∈ l, p.2.ok) → 0 ≤ next → next ≤ 1099511627776 → 0 ≤ (loadL x next l).2 ∧ (loadL x next l).2 ≤ 1099511627776 := by
  induction l with
  | nil => intro x next _ h0 h1; exact ⟨h0, h1⟩
  | cons p l ih =>
    intro x next hok h0 h1
    obtain ⟨n, e⟩ := p
    rw [loadL]
    split
    · exact ⟨h0, h1⟩
    · have := hok (n, e) (by simp)
      obtain ⟨_, _, h3, _⟩ := this
      simp only at h3
      exact ih _ _ (fun p hp => hok p (by simp [hp])) (by omega) (by omega)

/-- A log with one segment more, whatever it has. -/
theorem LogRep.pushX {w w3 : World} {l d : Nat} {ms : List Value} {sv : Value} {L : PLog} (h : LogRep w l d ms sv L) (hg : w.grownBy w3 sv.ownBlock) {gg cap2 : Nat} {x0 : PSeg} {mv : Value}
    (hown : w3.ownsRow 0 147 4 (.slice (some ⟨gg, 0, none⟩) (L.segs.length + 1) cap2) (L.segs.length + 1) (segCells L.segs ms ++ [.int .i64 x0.base, .int .i64 x0.bytes, .int .i64 x0.entries, mv])) (hx0 : w.ownsRow 0 194 3 mv x0.marks.length (markCells x0.marks)) (hap : ∀ k, mv.ownBlock = some k → ¬ footL l ms sv k) (hgg : sv.ownBlock = some gg ∨ w.heap.size ≤ gg) :
    LogRep (w3.setCell ⟨l, 2, none⟩ (.slice (some ⟨gg, 0, none⟩) (L.segs.length + 1) cap2)) l d (ms ++ [mv]) (.slice (some ⟨gg, 0, none⟩) (L.segs.length + 1) cap2) { L with segs := L.segs ++ [x0] } := by
  have hlne : sv.ownBlock ≠ some l := by
    intro e
    obtain ⟨c, fz, hc⟩ := Lib.ownsRow_kind h.segs _ e
    have := h.hdr
    unfold Blk at this
    rw [this] at hc
    cases hc
  have hllt := h.hdr.lt
  have hglne : gg ≠ l := by
    rintro rfl
    rcases hgg with e | e
    · exact hlne e
    · omega
  have hB3 := h.hdr.grown hg hlne
  have hf : Fr (fun k => k = l) w3 (w3.setCell ⟨l, 2, none⟩ (.slice (some ⟨gg, 0, none⟩) (L.segs.length + 1) cap2)) := Fr.setCell (S := fun k => k = l) (p := ⟨l, 2, none⟩) (Fr.refl _ _) (.inl rfl) _
  have hmark : ∀ (i : Nat) (x : PSeg) (v : Value), L.segs[i]? = some x → ms[i]? = some v → ∀ k, v.ownBlock = some k → k ≠ l ∧ sv.ownBlock ≠ some k := by
    intro i x v hx hv k hk
    have hr := h.marks i x v hx hv
    constructor
    · rintro rfl
      obtain ⟨c, fz, hc⟩ := Lib.ownsRow_kind hr _ hk
      have := h.hdr
      unfold Blk at this
      rw [this] at hc
      cases hc
    · intro e
      obtain ⟨c, fz, hc⟩ := Lib.ownsRow_kind hr _ hk
      obtain ⟨c', fz', hc'⟩ := Lib.ownsRow_kind h.segs _ e
      rw [hc] at hc'
      cases hc'
  refine ⟨hB3.set 2 _, by simp [h.len], ?_, ?_, ?_⟩
  · have h1 := row_fr hown hf (fun k hk e => by
      simp only [Value.ownBlock, Option.some.injEq] at hk
      exact hglne (hk.trans e))
    have hl : (L.segs ++ [x0]).length = L.segs.length + 1 := by simp
    have hc : segCells (L.segs ++ [x0]) (ms ++ [mv]) = segCells L.segs ms ++ [.int .i64 x0.base, .int .i64 x0.bytes, .int .i64 x0.entries, mv] := by
      rw [segCells_app _ _ _ _ h.len]; rfl
    show World.ownsRow _ 0 _ 4 _ (L.segs ++ [x0]).length (segCells (L.segs ++ [x0]) _)
    rw [hl, hc]
    exact h1
  · intro i x v hx hv
    have hx : (L.segs ++ [x0])[i]? = some x := hx
    by_cases hi : i < L.segs.length
    · rw [List.getElem?_append_left hi] at hx
      rw [List.getElem?_append_left (by rw [h.len]; exact hi)] at hv
      have hr := h.marks i x v hx hv
      have h3 : w3.ownsRow 0 194 3 v x.marks.length (markCells x.marks) := by
        refine hr.kept hg ?_
        cases hvb : v.ownBlock with
        | none => exact .inl rfl
        | some k => exact .inr (fun e => (hmark i x v hx hv k hvb).2 e.symm)
      exact row_fr h3 hf (fun k hk e => (hmark i x v hx hv k hk).1 e)
    · have hlen : i < (L.segs ++ [x0]).length := (List.getElem?_eq_some_iff.1 hx).1
      have hi2 : i = L.segs.length := by simp at hlen; omega
      subst hi2
      rw [List.getElem?_append_right (Nat.le_refl _), Nat.sub_self] at hx
      rw [← h.len, List.getElem?_append_right (Nat.le_refl _), Nat.sub_self] at hv
      simp only [List.getElem?_cons_zero, Option.some.injEq] at hx hv
      subst hx hv
      have h3 : w3.ownsRow 0 194 3 mv x0.marks.length (markCells x0.marks) := by
        refine hx0.kept hg ?_
        cases hvb : mv.ownBlock with
        | none => exact .inl rfl
        | some k => exact .inr (fun e => hap k hvb (.inr (.inl e.symm)))
      exact row_fr h3 hf (fun k hk e => hap k hk (.inl e))
  · intro i j a c k hi hj ha hc
    have hml : ∀ (i : Nat) (a : Value), (ms ++ [mv])[i]? = some a → (i < ms.length ∧ ms[i]? = some a) ∨ (i = ms.length ∧ a = mv) := by
      intro i a hi
      by_cases hlt : i < ms.length
      · rw [List.getElem?_append_left hlt] at hi; exact .inl ⟨hlt, hi⟩
      · rw [List.getElem?_append_right (by omega)] at hi
        have h0 : i - ms.length = 0 := by have := (List.getElem?_eq_some_iff.1 hi).1; simp at this; omega
        rw [h0] at hi
        simp only [List.getElem?_cons_zero, Option.some.injEq] at hi
        exact .inr ⟨by omega, hi.symm⟩
    rcases hml i a hi with ⟨l1, g1⟩ | ⟨l1, rfl⟩ <;> rcases hml j c hj with ⟨l2, g2⟩ | ⟨l2, rfl⟩
    · exact h.apart i j a c k g1 g2 ha hc
    · exact absurd (.inr (.inr ⟨a, List.mem_of_getElem? g1, ha⟩)) (hap k hc)
    · exact absurd (.inr (.inr ⟨c, List.mem_of_getElem? g2, hc⟩)) (hap k ha)
    · omega

theorem round_call {l n : Nat} {P : Program} {f : FuncId} {args : Array Value} {w : World} {R : Ending → World → Prop} (h : Calls P f args w R) :
    (Fence.wide.inRound l).fn f ∧ ((Fence.wide.inRound l).depth.isSome = true → 1 ≤ n) ∧ CallsIn (Fence.wide.inRound l) (n - 1) P f args w R := ⟨trivial, fun h => (by cases h), (callsIn_wide.2 h).inRound l⟩

theorem round_call' {l n : Nat} {P : Program} {f : FuncId} {args : Array Value} {w : World} {R : Ending → World → Prop} (h : Calls P f args w R) :
    Fence.wide.fn f ∧ CallsIn (Fence.wide.inRound l) n P f args w R := ⟨trivial, (callsIn_wide.2 h).inRound l⟩

theorem takeEnt_ok {l : List UInt8} {e : Ent} {r : List UInt8} (h : takeEnt l = some (e, r)) : e.ok := by
  unfold takeEnt at h
  split at h
  · cases h
  · split at h
    · cases h
    · split at h
      · cases h
      · split at h
        · cases h
        · rename_i e' he
          simp only [Option.some.injEq, Prod.mk.injEq] at h
          obtain ⟨rfl, _⟩ := h
          unfold entOf at he
          split at he
          · split at he
            · rename_i hok
              simp only [Option.some.injEq] at he
              rw [← he]; exact hok
            · cases he
          · cases he

theorem rowL_ok (l : List UInt8) : ∀ n, l.length ≤ n → ∀ p ∈ rowL l, p.2.ok := by
  intro n
  induction n generalizing l with
  | zero =>
    intro h p hp
    cases ht : takeEnt l with
    | none => rw [rowL_none ht] at hp; cases hp
    | some x => have := takeEnt_len l x.1 x.2 ht; omega
  | succ n ih =>
    intro h p hp
    cases ht : takeEnt l with
    | none => rw [rowL_none ht] at hp; cases hp
    | some x =>
      have hl := takeEnt_len l x.1 x.2 ht
      rw [rowL_some (e := x.1) (r := x.2) ht] at hp
      rcases List.mem_cons.1 hp with rfl | hp
      · exact takeEnt_ok ht
      · exact ih x.2 (by omega) p hp

/-- Between two rounds of load. -/
structure LoadI (w : World) (l d : Nat) (ms : List Value) (sv : Value) (L : PLog) (x0 : PSeg) (all : List (Nat × Ent)) (B : Nat) (left : List (Nat × Ent) → Prop) (W : World) : Prop where
  go : ∃ x' next' rest mv cs, left rest ∧ loadL x0 L.next all = loadL x' next' rest ∧ 0 ≤ next' ∧ next' ≤ 1099511627776 ∧
    SegAt W (w.heap.size + 1) 0 #[.int .i64 0, .int .i64 0, .int .i64 0, .slice none 0 0] x' mv cs ∧ LogRep W l d ms sv { L with next := next' } ∧
    (∀ k, mv.ownBlock = some k → w.heap.size + 5 ≤ k) ∧ 0 ≤ x'.bytes ∧ x'.bytes + rowBytes rest ≤ B ∧ 0 ≤ x'.entries ∧ x'.entries + rest.length ≤ B ∧ x'.marks.length + rest.length ≤ B ∧ (∀ y ∈ x'.marks, 0 ≤ y.pos ∧ y.pos ≤ x'.bytes) ∧ x'.base = x0.base
  box : Blk W w.heap.size #[ptr l] 80
  fr : Fr (fun k => k = l) w W

theorem LoadI.keep {w : World} {l d : Nat} {ms : List Value} {sv : Value} {L : PLog} {x0 : PSeg} {all : List (Nat × Ent)} {B : Nat} {left : List (Nat × Ent) → Prop} {A C : World} {n : Nat} (h : LoadI w l d ms sv L x0 all B left A) (hn : n = w.heap.size + 3) (hsv : ∀ k, footL l ms sv k → k < w.heap.size)
    (hf : Fr (fun k => k = w.heap.size + 2 ∨ k = n ∨ k = n + 1) A C) : LoadI w l d ms sv L x0 all B left C := by
  obtain ⟨⟨x', next', rest, mv, cs, h0, h1, h2, h3, hs, hr, hm, h4⟩, hb, hfr⟩ := h
  refine ⟨⟨x', next', rest, mv, cs, h0, h1, h2, h3, hs.fr hf (by omega) (fun k hk => by have := hm k hk; omega), hr.fr hf (fun k hk => by have := hsv k hk; omega), hm, h4⟩, hb.fr hf (by omega), ?_⟩
  exact ⟨hf.os.trans hfr.os, hf.tape.trans hfr.tape, hf.output.trans hfr.output, Nat.le_trans hfr.size hf.size, fun k hk hne => (hf.block k (Nat.lt_of_lt_of_le hk hfr.size) (by omega)).trans (hfr.block k hk hne)⟩

set_option maxHeartbeats 4000000 in
theorem load_any {w : World} {l d : Nat} {ms : List Value} {sv : Value} {L : PLog} (b : Int) (s : List UInt8) (h : LogRep w l d ms sv L) (hnx : 0 ≤ L.next ∧ L.next ≤ 1099511627776) (hcnt : L.segs.length ≤ 1000) (hs : s.length ≤ 1048576) :
    Calls Tryz.prog 68 #[ptr l, .int .i64 b, .string (bs s)] w fun e w' => e = .returned (.int .i64 (L.load b s).2) ∧ ∃ ms' sv', LogRep w' l d ms' sv' (L.load b s).1 ∧
      Fr (footL l ms sv) w w' ∧ ∀ k, footL l ms' sv' k → footL l ms sv k ∨ w.heap.size ≤ k := by
  have hll := h.hdr.lt
  have hlt : ∀ k, footL l ms sv k → k < w.heap.size := fun k hk => LogAt.lt (⟨ms, sv, h, fun _ => Iff.rfl⟩ : LogAt w l d (footL l ms sv) L) hk
  have hp2 := rowBytes_le s _ (Nat.le_refl _)
  have hp3 := rowL_len s _ (Nat.le_refl _)
  have HR := hid h
  clear h
  unfold ptr
  refine (callsIn_wide (n := 9)).1 ?_
  refine callsIn_of_wp_marks Tryz.func68 rfl trivial ?_ rfl
  simp only [Tryz.ntmps68, List.size_toArray, List.length_cons, List.length_nil, Nat.reduceAdd, Nat.reduceSub, Array.replicate_succ, Array.replicate_zero, List.push_toArray, List.append_toArray, List.nil_append, List.cons_append]
  refine wpIn_wide.2 ?_
  go_wp2_with fail
  refine (each_any _ _).mono ?_
  rintro e w1 ⟨rfl, rfl⟩
  go_wp2_with fail
  obtain ⟨W0, hW0⟩ : ∃ W0, ((w.alloc (.cells #[ptr l] 80)).alloc (.cells #[.int .i64 b, .int .i64 0, .int .i64 0, .slice none 0 0] 147)).alloc (.cells #[.string (bs s)] 9) = W0 := ⟨_, rfl⟩
  have hsz : W0.heap.size = w.heap.size + 3 := by rw [← hW0]; simp
  have hb0 : Blk W0 w.heap.size #[ptr l] 80 := by rw [← hW0]; exact ((Blk.new _ _ _).alloc _).alloc _
  have hb1 : Blk W0 (w.heap.size + 1) #[.int .i64 b, .int .i64 0, .int .i64 0, .slice none 0 0] 147 := by
    rw [← hW0]
    have h := (Blk.new (w.alloc (.cells #[ptr l] 80)) #[.int .i64 b, .int .i64 0, .int .i64 0, .slice none 0 0] 147).alloc (.cells #[.string (bs s)] 9)
    rwa [World.size_alloc] at h
  have hb2 : Blk W0 (w.heap.size + 2) #[.string (bs s)] 9 := by
    rw [← hW0]
    have h := Blk.new ((w.alloc (.cells #[ptr l] 80)).alloc (.cells #[.int .i64 b, .int .i64 0, .int .i64 0, .slice none 0 0] 147)) #[.string (bs s)] 9
    rwa [World.size_alloc, World.size_alloc] at h
  have hfr0 : Fr (fun _ => False) w W0 := by rw [← hW0]; exact (((Fr.refl _ w).alloc _).alloc _).alloc _
  unfold ptr at hW0
  rw [hW0]
  clear hW0
  refine wp_range_break 0 (fun _ _ h => h) (gf := 104) (lb := #[.pointer (some ⟨w.heap.size + 2, 0, none⟩)]) rfl (enters_of Tryz.func104 (by kernel_rfl) rfl)
    (each_it _ (w.heap.size + 2) s W0 (by omega) hb2) (by rintro k rfl; omega) (fun _ => rfl)
    (fun pre W => LoadI w l d ms sv L ⟨b, 0, 0, []⟩ (rowL s) s.length (fun rest => rowL s = pre ++ rest) W)
    (fun W => LoadI w l d ms sv L ⟨b, 0, 0, []⟩ (rowL s) s.length (fun rest => rest = []) W)
    ?hI ?hJ ?h0 ?hround ?hdone ?hfin
  case hI =>
    rintro pre A B hA hf
    exact hA.keep hsz hlt hf
  case hJ =>
    rintro A B hA hf
    exact hA.keep hsz hlt hf
  case h0 =>
    intro W hW hs2
    refine ⟨⟨⟨b, 0, 0, []⟩, L.next, rowL s, .slice none 0 0, #[.int .i64 b, .int .i64 0, .int .i64 0, .slice none 0 0], rfl, rfl, hnx.1, hnx.2, ⟨hb1.below' hW, rfl, fun j hj => ?_, rfl, rfl, rfl, rfl, World.ownsRow_nil _ _ _ _⟩, ?_, (fun k hk => by cases hk), by simp, (by simp; omega), by simp, (by simp; omega), (by simp; omega), by simp, rfl⟩, hb0.below' hW, (hfr0.below hW).mono (fun _ _ h => h.elim)⟩
    · rcases hj with hj | hj
      · omega
      · rw [Array.getElem?_eq_none (by simp; omega), Array.getElem?_eq_none (by simp; omega)]
    · exact LogRep.fr HR.out (hfr0.below hW) (fun _ _ h => h)
  case hround =>
    --<
    rintro pre ⟨m, e⟩ W hpre ⟨⟨x', next', rest, mv, cs, hr, h1, h2a, h2b, hsg, hrp, hm, n1, n2, n3, n4, n5, n6, n7⟩, hb, hf⟩ hs2
    obtain ⟨t, ht⟩ := hpre
    have hrest : rest = (m, e) :: t := by
      rw [hr, List.append_assoc] at ht
      simpa using (List.append_cancel_left ht).symm
    have hok : e.ok := rowL_ok s _ (Nat.le_refl _) (m, e) (by rw [← ht]; simp)
    obtain ⟨k1, k2, k3, k4, k5⟩ := hok
    subst hrest
    simp only [rowBytes, List.map_cons, List.sum_cons, List.length_cons] at n2 n4 n5
    have HT := hid ht
    have H1 := hid h1
    have HM := hid hm
    have HN := hid (And.intro n6 n7)
    clear ht h1 hr hm n6 n7
    unfold eachEnc
    gi_wp2
    refine ⟨Kept.of_fr ((Fr.refl (fun _ => False) W).alloc _) (fun _ _ h => h), ?_⟩
    intro W2 hf2
    have hszW := hf2.size
    simp at hszW
    have he : Blk W2 W.heap.size #[.int .i64 e.base, .int .i64 e.n, .string (bs e.text)] 103 := (Blk.new _ _ _).fr hf2 (by omega)
    have hsg2 := (hsg.fr (S := fun _ => False) ((Fr.refl _ W).alloc (.cells #[.int .i64 e.base, .int .i64 e.n, .string (bs e.text)] 103)) (fun h => h) (fun _ _ h => h)).fr hf2 (by omega) (fun k hk => by have := HM.out k hk; omega)
    have hrp2 := (hrp.fr (S := fun _ => False) ((Fr.refl _ W).alloc (.cells #[.int .i64 e.base, .int .i64 e.n, .string (bs e.text)] 103)) (fun _ _ h => h)).fr hf2 (fun k hk => by have := hlt k hk; omega)
    have hb2' := (hb.alloc (.cells #[.int .i64 e.base, .int .i64 e.n, .string (bs e.text)] 103)).fr hf2 (by omega)
    have hf2' : Fr (fun k => k = l) w W2 := by
      have hfa := hf.alloc (.cells #[.int .i64 e.base, .int .i64 e.n, .string (bs e.text)] 103)
      exact ⟨hf2.os.trans hfa.os, hf2.tape.trans hfa.tape, hf2.output.trans hfa.output, Nat.le_trans hfa.size hf2.size, fun k hk hne => (hf2.block k (Nat.lt_of_lt_of_le hk hfa.size) (by omega)).trans (hfa.block k hk hne)⟩
    obtain ⟨c0, c1, c2, _, _, _⟩ := he.c3
    have d0 := hb2'.cell (i := 0) (v := ptr l) rfl
    unfold ptr at d0
    obtain ⟨q0, q1, q2, q3, q4, q5, q6⟩ := hrp2.cells
    simp only at q4
    have j4 := hrp2.hdr.free 4
    have hlW := hrp2.hdr.lt
    have HSG := hid hsg2
    have HRP := hid hrp2
    have HBX := hid hb2'
    have HF := hid hf2'
    have HE := hid he
    clear hsg2 hrp2 hb2' hf2' hsg hrp hb hf hf2 he q0 q1 q2 q3 q5 q6
    have hw1 : IntKind.i64.wrap (1099511627776 - next') = 1099511627776 - next' := IntWalk.i64_in _ (by omega)
    have hfin : ∀ (rest' : List (Nat × Ent)), (e.base ≠ next' ∨ 1099511627776 - next' < e.n) → LoadI w l d ms sv L ⟨b, 0, 0, []⟩ (rowL s) s.length (fun rest => rest = []) W2 := by
      intro _ hbad
      refine ⟨⟨x', next', [], mv, cs, rfl, ?_, h2a, h2b, HSG.out, HRP.out, HM.out, n1, (by simp [rowBytes]; omega), n3, (by simp; omega), (by simp; omega), HN.out.1, HN.out.2⟩, HBX.out, HF.out⟩
      rw [H1.out]
      show loadL x' next' ((m, e) :: t) = (x', next')
      unfold loadL
      rw [if_pos hbad]
    have HFIN := hid (hfin [])
    clear hfin
    by_cases hA : e.base = next'
    · have hA1 : (e.base != next') = false := by simpa using hA
      have hA2 : (e.base == next') = true := by simpa using hA
      have HA := hid hA
      clear hA
      by_cases hB : 1099511627776 - next' < e.n
      · have hB1 : decide (1099511627776 - next' < e.n) = true := by simpa using hB
        have HB := hid hB
        clear hB
        gi_wp2
        refine wpIn_region_quiet_round (by kernel_rfl) (by kernel_rfl) (by kernel_rfl) ?_
        repeat (quiet_step_in (fail))
        refine wpQuietIn_nil ?_
        intro _ hw'
        obtain ⟨nq, hw''⟩ := hw'
        subst hw''
        gi_wp2
        exact ⟨Kept.of_fr ((Fr.refl (fun _ => False) W2).drewN nq) (fun _ _ h => h), rfl, (HFIN.out (.inr HB.out)).keep rfl hlt ((Fr.refl _ W2).drewN nq)⟩
      · have hB1 : decide (1099511627776 - next' < e.n) = false := by simpa using hB
        have HB := hid hB
        clear hB
        gi_wp2
        refine wpIn_region_quiet_round (by kernel_rfl) (by kernel_rfl) (by kernel_rfl) ?_
        repeat (quiet_step_in (fail))
        refine wpQuietIn_nil ?_
        intro _ hw'
        obtain ⟨nq, hw''⟩ := hw'
        subst hw''
        gi_wp2
        refine round_call' ((took_seg (HSG.out.fr (S := fun _ => False) ((Fr.refl _ W2).drewN nq) (fun h => h) (fun _ _ h => h)) e.base e.n m _ (by omega) (by omega) (by omega) (by omega) (by omega) (by omega) (fun y hy => by have := HN.out.1 y hy; omega)).mono ?_)
        rintro r W3 ⟨rfl, mv2, cs2, hs3, ho3, hf3⟩
        have hne1 : ¬ (W.heap.size = w.heap.size + 1 ∨ mv.ownBlock = some W.heap.size) := by
          rintro (h | h)
          · omega
          · obtain ⟨c, fz, hc⟩ := Lib.ownsRow_kind HSG.out.marks _ h
            have h9 := HE.out
            unfold Blk at h9
            rw [h9] at hc
            cases hc
        have hl3 : ∀ k, footL l ms sv k → ¬ (k = w.heap.size + 1 ∨ mv.ownBlock = some k) := by
          rintro k hk (h | h)
          · have := hlt k hk; omega
          · have := hlt k hk; have := HM.out k h; omega
        have hb0 : ¬ (w.heap.size = w.heap.size + 1 ∨ mv.ownBlock = some w.heap.size) := by
          rintro (h | h)
          · omega
          · have := HM.out _ h; omega
        have he3 := (HE.out.drewN nq).fr hf3 hne1
        have hrp3 := (HRP.out.fr (S := fun _ => False) ((Fr.refl _ W2).drewN nq) (fun _ _ h => h)).fr hf3 hl3
        have hbx3 := (HBX.out.drewN nq).fr hf3 hb0
        obtain ⟨c0, c1, c2, _, _, _⟩ := he3.c3
        have d0 := hbx3.cell (i := 0) (v := ptr l) rfl
        unfold ptr at d0
        obtain ⟨_, _, _, _, q4, _⟩ := hrp3.cells
        simp only at q4
        have j4 := hrp3.hdr.free 4
        have hl4 := hrp3.hdr.lt
        have HS3 := hid hs3
        have HO3 := hid ho3
        have HF3 := hid hf3
        have HRP3 := hid hrp3
        have HBX3 := hid hbx3
        have hwr : IntKind.i64.wrap (next' + e.n) = next' + e.n := IntWalk.i64_in _ (by omega)
        have hwr2 : wrap64 (next' + e.n) = next' + e.n := IntWalk.wrap64_in _ (by omega)
        clear he3 hrp3 hbx3 hs3 ho3 hf3 hne1 hb0 hl3 hw1
        have hfw : Fr (fun k => k = w.heap.size + 1 ∨ mv.ownBlock = some k ∨ k = l) W2 (W3.setCell ⟨l, 4, none⟩ (.int .i64 (next' + e.n))).drew :=
          (Fr.setCell (p := ⟨l, 4, none⟩) (((Fr.refl _ W2).drewN nq).trans (HF3.out.mono fun k _ h => h.elim .inl (fun h => .inr (.inl h)))) (.inl (.inr (.inr rfl))) _).drew
        have hfl : Fr (fun k => k = l) W3 (W3.setCell ⟨l, 4, none⟩ (.int .i64 (next' + e.n))) := Fr.setCell (S := fun k => k = l) (p := ⟨l, 4, none⟩) (Fr.refl _ _) (.inl rfl) _
        have hmv2 : ∀ k, mv2.ownBlock = some k → w.heap.size + 5 ≤ k := by
          intro k hk
          rcases HO3.out with h | ⟨b2, h, hb2⟩
          · exact HM.out k (h.symm.trans hk)
          · rw [hk] at h
            injection h with h
            simp at hb2
            omega
        have hli : LoadI w l d ms sv L ⟨b, 0, 0, []⟩ (rowL s) s.length (fun rest => rowL s = (pre ++ [(m, e)]) ++ rest) (W3.setCell ⟨l, 4, none⟩ (.int .i64 (next' + e.n))).drew := by
          obtain ⟨hm1, hm2⟩ := took_marks x' e.base m
          have hby : (x'.took e.base m).bytes = x'.bytes + m := rfl
          have hen : (x'.took e.base m).entries = x'.entries + 1 := rfl
          have hB9 := HB.out
          clear hwr hwr2
          refine ⟨⟨x'.took e.base m, next' + e.n, t, mv2, cs2, HT.out.symm, ?_, by omega, by omega, (HS3.out.fr hfl (by omega) (fun k hk e => by have := hmv2 k hk; omega)).fr (S := fun _ => False) (Fr.refl _ _).drew (fun h => h) (fun _ _ h => h), ?_, hmv2, (by rw [hby]; omega), (by rw [hby]; simp only [rowBytes]; omega), (by rw [hen]; omega), (by rw [hen]; omega), (by omega), ?_, ?_⟩, ?_, ?_⟩
          · rw [H1.out]
            show loadL x' next' ((m, e) :: t) = _
            rw [loadL.eq_def]
            simp only
            rw [if_neg (fun h => h.elim (fun h => h HA.out) (fun h => by omega))]
          · exact ((HRP3.out.set hfl (HRP3.out.hdr.set 4 (.int .i64 (next' + e.n)))).fr (S := fun _ => False) (Fr.refl _ _).drew (fun _ _ h => h))
          · intro y hy
            rw [hby]
            rcases hm2 y hy with h | h
            · have := HN.out.1 y h; omega
            · omega
          · exact HN.out.2
          · exact (HBX3.out.fr hfl (by omega)).drew
          · have hf := HF.out
            exact ⟨hfw.os.trans hf.os, hfw.tape.trans hf.tape, hfw.output.trans hf.output, Nat.le_trans hf.size hfw.size, fun k hk hne => (hfw.block k (Nat.lt_of_lt_of_le hk hf.size) (by
              rintro (h | h | h)
              · omega
              · have := HM.out k h; omega
              · exact hne h)).trans (hf.block k hk hne)⟩
        have HFW := hid hfw
        have HLI := hid hli
        clear hfw hfl hmv2 hli
        gi_wp2
        refine wpIn_region_round (by kernel_rfl) (by kernel_rfl) ?_
        repeat' (first
            | (refine wpAnyIn_done (by decide +kernel) ?_ _)
            | (refine wpAnyIn_take (i := 1) (v := _) rfl rfl (by decide +kernel) (by decide +kernel) (by decide +kernel) (fun _ _ _ h => h) ⟨Or.inl ⟨by rfl, fun w => by (go_simp; try with_reducible rfl)⟩, fun _ => rfl⟩ ?_)
            | (refine wpAnyIn_take (i := 2) (v := _) rfl rfl (by decide +kernel) (by decide +kernel) (by decide +kernel) (fun _ _ _ h => h) ⟨Or.inl ⟨by rfl, fun w => by (go_simp; try with_reducible rfl)⟩, fun _ => rfl⟩ ?_)
            | (refine wpAnyIn_take (i := 4) (v := _) rfl rfl (by decide +kernel) (by decide +kernel) (by decide +kernel) (fun _ _ _ h => h) ⟨Or.inl ⟨by rfl, fun w => by (go_simp; try with_reducible rfl)⟩, fun _ => rfl⟩ ?_)
            | (refine wpAnyIn_take (i := 6) (v := _) rfl rfl (by decide +kernel) (by decide +kernel) (by decide +kernel) (fun _ _ _ h => h) ⟨Or.inl ⟨by rfl, fun w => by (go_simp; try with_reducible rfl)⟩, fun _ => rfl⟩ ?_)
            | (refine wpAnyIn_take (i := 7) (v := _) rfl rfl (by decide +kernel) (by decide +kernel) (by decide +kernel) (fun _ _ _ h => h) ⟨Or.inl ⟨by rfl, fun w => by (go_simp; try with_reducible rfl)⟩, fun _ => rfl⟩ ?_)
            | (refine wpAnyIn_take (i := 8) (v := _) rfl rfl (by decide +kernel) (by decide +kernel) (by decide +kernel) (fun _ _ _ h => h) ⟨Or.inl ⟨by rfl, fun w => by (go_simp; try with_reducible rfl)⟩, fun _ => rfl⟩ ?_)
            | (refine wpAnyIn_ready (rs := [0, 5]) (by decide +kernel) (by simp) ?_; refine AllReadyIn.cons rfl (fun K hK => ?_) (AllReadyIn.cons rfl (fun K hK => ?_) AllReadyIn.nil) <;> (go_simp; refine hK _ _ ?_; clear hK K))
            | (refine wpAnyIn_ready (rs := [3, 5]) (by decide +kernel) (by simp) ?_; refine AllReadyIn.cons rfl (fun K hK => ?_) (AllReadyIn.cons rfl (fun K hK => ?_) AllReadyIn.nil) <;> (go_simp; refine hK _ _ ?_; clear hK K))
            | (refine wpAnyIn_ready (rs := [0]) (by decide +kernel) (by simp) ?_; refine AllReadyIn.cons rfl (fun K hK => ?_) AllReadyIn.nil; go_simp; refine hK _ _ ?_; clear hK K)
            | (refine wpAnyIn_ready (rs := [3]) (by decide +kernel) (by simp) ?_; refine AllReadyIn.cons rfl (fun K hK => ?_) AllReadyIn.nil; go_simp; refine hK _ _ ?_; clear hK K)
            | (refine wpAnyIn_ready (rs := [5]) (by decide +kernel) (by simp) ?_; refine AllReadyIn.cons rfl (fun K hK => ?_) AllReadyIn.nil; go_simp; refine hK _ _ ?_; clear hK K)
            | (refine wpAnyIn_ready (rs := [9]) (by decide +kernel) (by simp) ?_; refine AllReadyIn.cons rfl (fun K hK => ?_) AllReadyIn.nil; go_simp; refine hK _ _ ?_; clear hK K))
        all_goals
          gi_wp2
          refine ⟨Kept.of_fr HFW.out ?_, HLI.out⟩
          rintro k hk (h | h | h)
          · omega
          · have := HM.out k h; omega
          · omega
    · have hA1 : (e.base != next') = true := by simpa using hA
      have hA2 : (e.base == next') = false := by simpa using hA
      have HA := hid hA
      clear hA
      gi_wp2
      refine wpIn_region_quiet_round (by kernel_rfl) (by kernel_rfl) (by kernel_rfl) ?_
      repeat (quiet_step_in (fail))
      refine wpQuietIn_nil ?_
      intro _ hw'
      obtain ⟨nq, hw''⟩ := hw'
      subst hw''
      gi_wp2
      exact ⟨Kept.of_fr ((Fr.refl (fun _ => False) W2).drewN nq) (fun _ _ h => h), rfl, (HFIN.out (.inl HA.out)).keep rfl hlt ((Fr.refl _ W2).drewN nq)⟩
    -->
  case hdone =>
    rintro W ⟨⟨x', next', rest, mv, cs, hr, h1, h2⟩, hb, hf⟩
    have : rest = [] := by simpa using hr
    subst this
    exact ⟨⟨x', next', [], mv, cs, rfl, h1, h2⟩, hb, hf⟩
  case hfin =>
    rintro W ⟨⟨x', next', rest, mv, cs, hr, h1, h2a, h2b, hsg, hrp, hm, n1, n2, n3, n4, n5, n6, n7⟩, hb, hf⟩ hD
    have hr : rest = [] := hr
    subst hr
    obtain ⟨i0, hi, hz0', hz1', hz2'⟩ := info_parts Tryz.infoSegL
    have hres : L.load b s = ({ L with segs := L.segs ++ [x'], next := next' }, x'.bytes) := by
      unfold PLog.load
      rw [h1]; rfl
    obtain ⟨q0, q1, q2, q3, q4, q5, q6⟩ := hrp.cells
    obtain ⟨ad7, cap7, hsv7, _⟩ := hrp.form
    have hk7 : ({ L with next := next' } : PLog).segs.length = L.segs.length := rfl
    rw [hk7] at hsv7
    subst hsv7
    obtain ⟨ma, mc, rfl⟩ := row_slice hsg.marks
    have y0 := hsg.blk.cell hsg.c0
    have y1 := hsg.blk.cell hsg.c1
    have y2 := hsg.blk.cell hsg.c2
    have y3 := hsg.blk.cell hsg.c3
    simp only [Nat.zero_add] at y0 y1 y2 y3
    have d0 := hb.cell (i := 0) (v := ptr l) rfl
    unfold ptr at d0
    have f2 := hrp.hdr.free 2
    have hlW := hrp.hdr.lt
    have hxW := hsg.blk.lt
    have hbW : w.heap.size < W.heap.size := by omega
    have hsvx : (Value.slice ad7 L.segs.length cap7).ownBlock ≠ some (w.heap.size + 1) := fun e => by have := hlt _ (.inr (.inl e)); omega
    have HNX : Hid ((W.drew.alloc (.cells #[.int .i64 x'.base, .int .i64 x'.bytes, .int .i64 x'.entries, .slice ma x'.marks.length mc] 147)).heap[W.heap.size]? = some (.cells #[.int .i64 x'.base, .int .i64 x'.bytes, .int .i64 x'.entries, .slice ma x'.marks.length mc] 147)) := hid (heap_alloc_new W.drew _)
    have HRX := hid (hrp.fr (S := fun _ => False) (((Fr.refl _ W).drew).alloc (.cells #[.int .i64 x'.base, .int .i64 x'.bytes, .int .i64 x'.entries, .slice ma x'.marks.length mc] 147)) (fun _ _ h => h))
    have HSX := hid ((hsg.blk.drew).alloc (.cells #[.int .i64 x'.base, .int .i64 x'.bytes, .int .i64 x'.entries, .slice ma x'.marks.length mc] 147))
    have HMX := hid (row_fr (S := fun _ => False) hsg.marks (((Fr.refl _ W).drew).alloc (.cells #[.int .i64 x'.base, .int .i64 x'.bytes, .int .i64 x'.entries, .slice ma x'.marks.length mc] 147)) (fun _ _ h => h))
    have HBXX : Hid (Blk (W.drew.alloc (.cells #[.int .i64 x'.base, .int .i64 x'.bytes, .int .i64 x'.entries, .slice ma x'.marks.length mc] 147)) w.heap.size #[.pointer (some ⟨l, 0, none⟩)] 80) := hid ((hb.drew).alloc _)
    have HSV2 : Hid ((Value.slice ad7 L.segs.length cap7).ownBlock ≠ some w.heap.size) := hid (fun e => by have := hlt _ (.inr (.inl e)); omega)
    have hend : ∀ (gg cap2 : Nat) (w3 : World), w3.ownsRow 0 147 4 (.slice (some ⟨gg, 0, none⟩) (L.segs.length + 1) cap2) (L.segs.length + 1) (segCells L.segs ms ++ [.int .i64 x'.base, .int .i64 x'.bytes, .int .i64 x'.entries, .slice ma x'.marks.length mc]) →
        (W.drew.alloc (.cells #[.int .i64 x'.base, .int .i64 x'.bytes, .int .i64 x'.entries, .slice ma x'.marks.length mc] 147)).grownBy w3 (Value.slice ad7 L.segs.length cap7).ownBlock → ((Value.slice ad7 L.segs.length cap7).ownBlock = some gg ∨ gg = W.heap.size + 1) →
        (w3.setCell ⟨l, 2, none⟩ (.slice (some ⟨gg, 0, none⟩) (L.segs.length + 1) cap2)).heap[w.heap.size + 3]? = some (.deferred (some [])) ∧
        ∃ ms' sv', LogRep ((w3.setCell ⟨l, 2, none⟩ (.slice (some ⟨gg, 0, none⟩) (L.segs.length + 1) cap2)).putObj (w.heap.size + 3) (.deferred none)) l d ms' sv' (L.load b s).1 ∧
          Fr (footL l ms (.slice ad7 L.segs.length cap7)) w ((w3.setCell ⟨l, 2, none⟩ (.slice (some ⟨gg, 0, none⟩) (L.segs.length + 1) cap2)).putObj (w.heap.size + 3) (.deferred none)) ∧
          ∀ k, footL l ms' sv' k → footL l ms (.slice ad7 L.segs.length cap7) k ∨ w.heap.size ≤ k := by
      intro gg cap2 w3 hown3 hgrow hat
      have hDlt : w.heap.size + 3 < W.heap.size := by rw [← hsz]; exact (Array.getElem?_eq_some_iff.1 hD).1
      have hpush := LogRep.pushX HRX.out hgrow hown3 HMX.out (fun k hk hf9 => by have h8 := hm k hk; have h9 := hlt k hf9; omega) (hat.imp id (fun e => by simp; omega))
      have hbase : Fr (footL l ms (.slice ad7 L.segs.length cap7)) W (w3.setCell ⟨l, 2, none⟩ (.slice (some ⟨gg, 0, none⟩) (L.segs.length + 1) cap2)) := by
        have ha : Fr (footL l ms (.slice ad7 L.segs.length cap7)) W (W.drew.alloc (.cells #[.int .i64 x'.base, .int .i64 x'.bytes, .int .i64 x'.entries, .slice ma x'.marks.length mc] 147)) := ((Fr.refl _ W).drew).alloc _
        have h3 : Fr (footL l ms (.slice ad7 L.segs.length cap7)) W w3 := ⟨hgrow.os.trans ha.os, hgrow.tape.trans ha.tape, hgrow.output.trans ha.output, Nat.le_trans ha.size hgrow.size, fun k hk hn => (hgrow.block k (Nat.lt_of_lt_of_le hk ha.size) (fun e => hn (.inr (.inl e.symm)))).trans (ha.block k hk hn)⟩
        exact Fr.setCell (p := ⟨l, 2, none⟩) h3 (.inl (.inl rfl)) _
      have hD3 : (w3.setCell ⟨l, 2, none⟩ (.slice (some ⟨gg, 0, none⟩) (L.segs.length + 1) cap2)).heap[w.heap.size + 3]? = some (.deferred (some [])) := by
        rw [hbase.block _ hDlt (fun hf9 => by have h9 := hlt _ hf9; omega), ← hsz]; exact hD
      have hput : Fr (fun k => k = w.heap.size + 3) (w3.setCell ⟨l, 2, none⟩ (.slice (some ⟨gg, 0, none⟩) (L.segs.length + 1) cap2)) ((w3.setCell ⟨l, 2, none⟩ (.slice (some ⟨gg, 0, none⟩) (L.segs.length + 1) cap2)).putObj (w.heap.size + 3) (.deferred none)) := fr_putObj _ _ _ rfl
      have hfoot : ∀ k, footL l (ms ++ [.slice ma x'.marks.length mc]) (.slice (some ⟨gg, 0, none⟩) (L.segs.length + 1) cap2) k → footL l ms (.slice ad7 L.segs.length cap7) k ∨ w.heap.size + 5 ≤ k := by
        intro k hk
        rcases hk with rfl | hk | ⟨v, hv, hk⟩
        · exact .inl (.inl rfl)
        · simp only [Value.ownBlock, Option.some.injEq] at hk
          subst hk
          rcases hat with e | e
          · exact .inl (.inr (.inl e))
          · exact .inr (by omega)
        · rcases List.mem_append.1 hv with hv | hv
          · exact .inl (.inr (.inr ⟨v, hv, hk⟩))
          · simp only [List.mem_singleton] at hv
            subst hv
            exact .inr (hm k hk)
      refine ⟨hD3, ms ++ [.slice ma x'.marks.length mc], _, ?_, ?_, fun k hk => (hfoot k hk).imp id (by omega)⟩
      · rw [hres]
        refine hpush.fr hput (fun k hk e => ?_)
        rcases hfoot k hk with h9 | h9
        · have := hlt k h9; omega
        · omega
      · have hfw : Fr (footL l ms (.slice ad7 L.segs.length cap7)) w (w3.setCell ⟨l, 2, none⟩ (.slice (some ⟨gg, 0, none⟩) (L.segs.length + 1) cap2)) := (hf.mono (fun k _ e => .inl e)).trans hbase
        exact ⟨hput.os.trans hfw.os, hput.tape.trans hfw.tape, hput.output.trans hfw.output, Nat.le_trans hfw.size hput.size, fun k hk hn => (hput.block k (Nat.lt_of_lt_of_le hk hfw.size) (by omega)).trans (hfw.block k hk hn)⟩
    have hret : (L.load b s).2 = x'.bytes := by rw [hres]
    have HEND := hid hend
    have HRET := hid hret
    clear hend hret
    have HC1 := hid hsg.c1
    have HRES := hid hres
    have HD := hid hD
    have HM := hid hm
    have HSV := hid hsvx
    have HFW := hid hf
    clear hres hsg hrp hb hf hD h1 hm hsvx q0 q1 q3 q5 q6 n6 n7
    go_upto_region 8 with fail
    refine wp_normal ?_
    go_region_law ((refine step_append_lies _ (by rfl) _ _ _ (by rfl) 0 147 i0 _ 4 48 Tryz.underlying120 hi hz0' hz1' hz2' rfl (by omega) (.slice ad7 L.segs.length cap7) L.segs.length _ (by rfl) HRX.out.segs ⟨W.heap.size, 0, none⟩ 1 1 [.int .i64 x'.base, .int .i64 x'.bytes, .int .i64 x'.entries, .slice ma x'.marks.length mc] (by rfl) (by rfl) (World.news_of_block (cs := #[.int .i64 x'.base, .int .i64 x'.bytes, .int .i64 x'.entries, .slice ma x'.marks.length mc]) (t := 147) (fr := (0, 0)) HNX.out) (by simp [Value.oneCell']) (by omega) (by unfold maxLen; omega) (by omega) (Nat.zero_le _) (W.heap.size + 1) (by simp) ?_; intro gg cap2 w3 hown3 hgrow hat hlt3; have hB3 := hid (HRX.out.hdr.grown hgrow (show (Value.slice ad7 L.segs.length cap7).ownBlock ≠ some l from fun e => by obtain ⟨c, fz, hc⟩ := Lib.ownsRow_kind HRX.out.segs l e; have h9 := HRX.out.hdr; unfold Blk at h9; rw [h9] at hc; cases hc)); have d3 := hB3.out.cell (i := 2) rfl; have k3 := hB3.out.free 2; have hS3 := HSX.out.grown hgrow HSV.out; have s1 := hS3.cell HC1.out; simp only [Nat.zero_add] at s1; have hB9 := HBXX.out.grown hgrow HSV2.out; have d9 := hB9.cell (i := 0) rfl; simp only [List.getElem_toArray, List.getElem_cons_zero] at d9; have HB9 := hid hB9; clear hB9; have HO3 := hid hown3; have HG3 := hid hgrow; have HA3 := hid hat; clear hown3 hgrow hat hS3))
    all_goals
      go_wp2_with fail
      obtain ⟨e1, e2⟩ := HEND.out _ _ _ HO3.out HG3.out HA3.out
      refine ⟨by simp, .inl ⟨_, _, rfl, run_takeDeferred (b := w.heap.size + 3) e1, ?_⟩⟩
      refine ⟨_, results_tmp rfl _ _ _, ?_⟩
      rw [HRET.out]
      exact ⟨rfl, e2⟩

end Go.Proofs.YtgjkjkeeblbjlaaGreatDoor

namespace Go.Proofs.YtgjkjkeeblbjlaaGreatDoor
open Go

section
variable {P : Program} {ops : Array Oper} {md : Region.Mode} {C : World → Prop}

/-- The head of a region, in whatever order: behind it L. -/
def HeadQ (P : Program) (md : Region.Mode) (ops : Array Oper) (C : World → Prop) (n : Nat) (L : Array Bool → Act → Prop) : Nat → Array Bool → Act → Prop
  | 0, listed, a => L listed a
  | f + 1, listed, a => Region.ready md ops listed ≠ [] ∧ ∀ i ∈ Region.ready md ops listed, i < n ∧ qOp P ops C i (HeadQ P md ops C n L f (listed.setIfInBounds i true)) a

theorem HeadQ.any {n g : Nat} {L : Array Bool → Act → Prop} {Q : Exit → Act → World → Prop} (hL : ∀ listed a w, C w → L listed a → wpAny P md ops Q g listed a w) :
    ∀ (f : Nat) (listed : Array Bool) (a : Act) (w : World), C w → HeadQ P md ops C n L f listed a → wpAny P md ops Q (f + g) listed a w
  | 0, listed, a, w, hC, h => by rw [Nat.zero_add]; exact hL _ _ _ hC h
  | f + 1, listed, a, w, hC, h => by
    rw [show f + 1 + g = (f + g) + 1 from by omega]
    exact ⟨fun h0 => absurd h0 h.1, fun i hi => wpOp_of_qOp hC (fun a' w' hC' h' => HeadQ.any hL f _ a' w' hC' h') (h.2 i hi).2⟩

/-- An operation that may come up now may be taken first. -/
theorem HeadQ.first {n i : Nat} {oi : Oper} {v : Value} {L : Array Bool → Act → Prop} (hi : ops[i]? = some oi) (hsel : ∀ (j : Nat) (o : Oper) cs b, ops[j]? = some o → o.op ≠ .select cs b)
    (hs : Region.sinkB md ops n = true) (hc : Region.chainB md ops n = true) (hn : n < ops.size) (hin : i < n) (hdone : ∀ listed a, L listed a → ∀ j ∈ Region.ready md ops listed, n ≤ j) (f : Nat) :
    ∀ (listed : Array Bool) (a : Act), HeadInv md ops n listed →
      (∀ j oj, ops[j]? = some oj → j ≠ i → listed.getD j true = false → (∀ e ∈ oj.after, Region.binds md e = true → e.on ≠ i) → oi.apart ops oj = true) →
      i ∈ Region.ready md ops listed → YieldsIn P ops C oi v a → HeadQ P md ops C n L f (listed.setIfInBounds i true) (a.put oi.dst v) → HeadQ P md ops C n L (f + 1) listed a := by
  induction f with
  | zero =>
    intro listed a inv _ hr hy H
    have hun := (mem_ready.1 hr).1
    refine ⟨fun h => (by rw [h] at hr; cases hr), fun j hj => ?_⟩
    have hjn : j < n := Nat.lt_of_not_le fun h => tail_waits hs hc hn inv _ i rfl hin hun j h hj
    by_cases hji : j = i
    · subst hji; exact ⟨hjn, hy.qOp hi H⟩
    · have := hdone _ _ H j (ready_mono hj hji)
      omega
  | succ f ih =>
    intro listed a inv hfree hr hy H
    have hun := (mem_ready.1 hr).1
    refine ⟨fun h => (by rw [h] at hr; cases hr), fun j hj => ?_⟩
    have hjn : j < n := Nat.lt_of_not_le fun h => tail_waits hs hc hn inv _ i rfl hin hun j h hj
    refine ⟨hjn, ?_⟩
    by_cases hji : j = i
    · subst hji; exact hy.qOp hi H
    · obtain ⟨hjun, oj, hoj, hall⟩ := mem_ready.1 hj
      have hno : ∀ e ∈ oj.after, Region.binds md e = true → e.on ≠ i := fun e he hb heq => by
        have h1 := hall e he hb
        rw [heq, getD_both hun] at h1
        cases h1
      have h2 := qOp_put hoj (hfree j oj hoj hji hjun hno) (fun cs b => hsel i oi cs b hi) (fun cs b => hsel j oj cs b hoj) hy (H.2 j (ready_mono hj hji)).2
      refine qOp_mono (fun a' h3 => ih (listed.setIfInBounds j true) a' (inv.set hj hjn) (fun k ok hk hki hkn hno' => ?_) (ready_mono hr (Ne.symm hji)) h3.1 ?_) h2
      · refine hfree k ok hk hki ?_ hno'
        by_cases hjk : j = k
        · subst hjk; exact hjun
        · rw [getD_set_ne true hjk] at hkn; exact hkn
      · rw [Array.setIfInBounds_comm _ _ hji]
        exact h3.2

theorem HeadQ.lex {n g : Nat} {Lq : Act → Prop} (hsel : Region.noSelect ops = true) (hs : Region.sinkB md ops n = true) (hc : Region.chainB md ops n = true) (hn : n < ops.size) :
    ∀ (l : List Oper) (k : Nat) (listed : Array Bool) (a : Act), (∀ j, j < l.length → l[j]? = ops[k + j]?) → k + l.length = n → HeadInv md ops n listed →
    Region.lexHead md ops g l.length k listed = true → wpQuiet P ops C Lq l a → HeadQ P md ops C n (fun listed' a' => Region.seqB md ops g n listed' = true ∧ Lq a') l.length listed a
  | [], k, listed, a, _, hk, _, hB, h => by
    have : k = n := by simpa using hk
    subst this
    exact ⟨by simpa [Region.lexHead] using hB, h⟩
  | o :: l, k, listed, a, hl, hk, inv, hB, h => by
    have h0 : ops[k]? = some o := by simpa using (hl 0 (by simp)).symm
    simp only [List.length_cons, Region.lexHead, Bool.and_eq_true] at hB
    obtain ⟨⟨hr, hf⟩, hB'⟩ := hB
    have hkn : k < n := by simp only [List.length_cons] at hk; omega
    have hr' : k ∈ Region.ready md ops listed := by simpa using hr
    have hst : qOp P ops C k (wpQuiet P ops C Lq l) a := by unfold qOp; simp only [h0]; exact h
    obtain ⟨v, hy, hK⟩ := yieldsIn_of_qOp h0 hst
    exact HeadQ.first h0 (Region.noSelect_spec hsel) hs hc hn hkn (fun listed' a' hL => seqB_ready hL.1) l.length listed a inv (Region.free_spec h0 hf) hr' hy
      (HeadQ.lex hsel hs hc hn l (k + 1) _ _ (fun j hj => by have := hl (j + 1) (by simp; omega); simpa [Nat.add_assoc, Nat.add_comm 1 j] using this) (by simp only [List.length_cons] at hk; omega) (inv.set hr' hkn) hB' hK)

/-- **One walk in the order of the text: what only reads, then the tail.** -/
theorem wp_region_quiet_tail {id : Nat} {Q : Exit → Act → World → Prop} {a : Act} {w : World} {l : List Oper} (n : Nat) (hm : P.follows .mixedOrders = true) (hB : Region.lexTailB .any l.toArray n = true)
    (h : wpQuiet P l.toArray (fun w' => ∃ m, w' = w.drewN m) (fun a' => ∀ w', (∃ m, w' = w.drewN m) → wpList P l.toArray Q (l.drop n) a' w') (l.take n) a) : (Code.region id l.toArray true).wp P Q a w := by
  simp only [Region.lexTailB, Bool.and_eq_true, decide_eq_true_eq] at hB
  obtain ⟨⟨⟨⟨hsel, hn⟩, hs⟩, hc⟩, hlex⟩ := hB
  have hn' : n < l.length := by simpa using hn
  have htl : (l.take n).length = n := by simp; omega
  have hdl : (l.drop n).length = l.toArray.size - n := by simp
  have inv0 : HeadInv .any l.toArray n (Array.replicate l.toArray.size false) :=
    ⟨by simp, fun j oj _ hl => (by rw [getD_replicate_false] at hl; cases hl), fun t _ ht => getD_in (by simpa using ht) (getD_replicate_false _ _)⟩
  have H := HeadQ.lex (P := P) (C := fun w' => ∃ m, w' = w.drewN m) (md := .any) (g := l.toArray.size - n) hsel hs hc hn (l.take n) 0 _ a (fun j hj => by
    have hj' : j < n := by rw [htl] at hj; exact hj
    simp [hj']) (by simpa using htl) inv0 (by rw [htl]; exact hlex) h
  refine wp_region_any hm ?_
  have h2 := HeadQ.any (Q := Q) (g := l.toArray.size - n) (fun listed a' w' hC hL => by
    have h3 := wpAny_of_seq (md := .any) (Q' := Q) (l.drop n) n listed a' w' (fun j => by simp [List.getElem?_drop]) (by rw [hdl]; exact hL.1) (hL.2 w' hC)
    rwa [hdl] at h3) _ _ _ { w with drawn := w.drawn + 1 } ⟨1, rfl⟩ H
  rw [htl, show n + (l.toArray.size - n) = l.toArray.size from by omega] at h2
  exact h2
end

end Go.Proofs.YtgjkjkeeblbjlaaGreatDoor

namespace Go.Proofs.YtgjkjkeeblbjlaaGreatDoor
open Go.RowKit

/-- A new log. -/
theorem LogAt.made {w : World} {l d : Nat} {name : List UInt8} (h : Blk w l #[ptr d, .string (bs name), .slice none 0 0, .int .i64 0, .int .i64 0, .int .i64 0, .int .i64 0] 122) :
    LogAt w l d (fun k => k = l) ⟨name, [], 0, 0, 0, 0⟩ := by
  refine ⟨[], .slice none 0 0, ⟨h, rfl, World.ownsRow_nil _ _ _ _, fun i x v hx _ => by simp at hx, fun i j a b k ha _ _ _ => by simp at ha⟩, fun k => ?_⟩
  constructor
  · rintro rfl; exact .inl rfl
  · rintro (h | h | ⟨v, hv, _⟩)
    · exact h
    · simp [Value.ownBlock] at h
    · simp at hv

def FreshPost (w : World) (d : Nat) (name : List UInt8) (e : Ending) (w' : World) : Prop :=
  ∃ l, e = .returned (.tuple #[ptr l, .int .i64 0]) ∧ w.heap.size ≤ l ∧ LogAt w' l d (fun k => k = l) ⟨name, [], 0, 0, 0, 0⟩ ∧ Below w.heap.size w w'

set_option maxHeartbeats 1000000 in
theorem open_fresh {w : World} {d : Nat} {S : Nat → Prop} {D : PDisk} {N : Int} (s : ByteArray) (h : DiskAt w d S D) (hw : D.WF N) (hf : D.files = []) (ho : D.off = false) (hs : okLog (tl s) = true) (hs2 : s.size ≤ 8) :
    Calls Tryz.prog 43 #[ptr d, .string s] w (FreshPost w d (tl s)) := by
  have HD := hid h
  have HW := hid hw
  have HF := hid hf
  have HS := hid hs
  have HO := hid ho
  have HS2 := hid hs2
  clear h hw hf hs ho hs2
  unfold ptr
  go_enter Tryz.func43, Tryz.ntmps43
  go_wp2_with fail
  refine (logNamed_any s _ (by have := HS2.out; omega)).mono ?_
  rintro e w1 ⟨rfl, hb1⟩
  rw [HS.out]
  go_wp2_with fail
  refine (off_any d S D _ (HD.out.below hb1)).mono ?_
  rintro e w2 ⟨rfl, rfl⟩
  rw [HO.out]
  go_wp2_with fail
  have hb2 : Below w.heap.size w (w1.alloc (.cells #[.pointer (some ⟨d, 0, none⟩), .string s, .slice none 0 0, .int .i64 0, .int .i64 0, .int .i64 0, .int .i64 0] 122)) := bel_alloc hb1 _
  refine (files_any d S D N _ (HD.out.below hb2) HW.out).mono ?_
  rintro e w2 ⟨v, rfl, hrow, hb3⟩
  obtain ⟨ad, cap, rfl⟩ := row_slice hrow
  rw [HF.out] at hrow ⊢
  have hblk := (Blk.new w1 #[.pointer (some ⟨d, 0, none⟩), .string s, .slice none 0 0, .int .i64 0, .int .i64 0, .int .i64 0, .int .i64 0] 122).below' hb3
  have hb4 := bel_next hb2 hb3
  have hle := hb1.size
  clear hrow hb2 hb3
  generalize w1.heap.size = l at hblk hle ⊢
  have HB := hid hblk
  have HB4 := hid hb4
  have c4 := hblk.cell (i := 4) (v := .int .i64 0) rfl
  have c5 := hblk.cell (i := 5) (v := .int .i64 0) rfl
  have f5 := hblk.free 5
  clear hblk hb4 hb1
  go_wp2_with fail
  go_loopw [39, 8] (fun c v wr => c = .int .i64 0 ∧ v = .string ⟨#[]⟩ ∧ wr = w2) (fun _ _ _ => 0)
  case atStart => exact ⟨rfl, rfl, rfl⟩
  case round =>
    obtain ⟨rfl, rfl, rfl⟩ := hrel
    go_wp2_with fail
    go_loopw [56] (fun c wx => c = .int .i64 0 ∧ wx = wr) (fun _ _ => 0)
    case atStart => exact ⟨rfl, rfl⟩
    case round =>
      obtain ⟨rfl, rfl⟩ := hrel
      go_wp2_with fail
      go_ret2
      have hst : Blk (wr.setCell ⟨l, 5, none⟩ (.int .i64 0)) l #[.pointer (some ⟨d, 0, none⟩), .string s, .slice none 0 0, .int .i64 0, .int .i64 0, .int .i64 0, .int .i64 0] 122 := by
        have h9 := HB.out.set 5 (.int .i64 0)
        simpa using h9
      refine ⟨l, rfl, hle, LogAt.made (by rw [bs_tl]; exact hst), ?_⟩
      · exact HB4.out.setCell hle _

end Go.Proofs.YtgjkjkeeblbjlaaGreatDoor

namespace Go.Proofs.YtgjkjkeeblbjlaaGreatDoor
open Go.RowKit

def aL : PLog := ⟨[97], [], 0, 0, 0, 0⟩
def aD : PDisk := ⟨[], 9, -1, false⟩
def aI : List PItem := [⟨1, [120]⟩, ⟨3, [121]⟩]
def aL1 : PLog := (aL.append aD aI).1
def aD1 : PDisk := (aL.append aD aI).2.1

theorem aw_ret : (aL.append aD aI).2.2 = (0, 0) := by kernel_rfl
theorem aw_next : aL1.next = 4 := by kernel_rfl
theorem aw_names : aD1.files.map (fun f => f.name) = [[97, 46, 48, 48, 48, 48, 48, 48, 48, 48, 48, 48, 48, 48, 48]] := by kernel_rfl
theorem aw_fetch : aL1.fetch aD1 2 1 = ([⟨1, 3, [121]⟩], 0) := by kernel_rfl
end Go.Proofs.YtgjkjkeeblbjlaaGreatDoor
