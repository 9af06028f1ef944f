/-
  Package seglog (chapter 5) as plain functions, and a log in the memory. No conditions.
  seglog: the log in the memory; the small functions: the walks. Conditions: numbers that fit.
  seglog: a log in the memory. No conditions.
  seglog: active, First, Next, Sure, Broken, named, from: the walks. Conditions: numbers that fit.
  seglog: Sync: the walk. Conditions: numbers that fit.
  seglog: took: the walk. Conditions: numbers that fit.
  seglog: Append as a plain function, and what its walk needs. Conditions: texts that fit.
  A log as its segments' entries, and what its functions make of it, in plain terms. No conditions.
  The names of a log's segments: numbers and their order; a disk's files that are a log's. No conditions.
  seglog: what Append needs: the frames as one text; a segment's notes. Conditions: texts that fit.
  seglog: what Append needs: a further segment; the states between its parts. Conditions: texts that fit.
-/
import Derived.Test.YtgjkjkeeblbjlaaGreatDoorGCM
import Derived.Test.YtgjkjkeeblbjlaaGreatDoorGBM
import Derived.Lib.OwnKind
import Derived.Deep.RegionLaw
import Derived.Deep.AppendLies
import Derived.Deep.DrawnRows
import Derived.Deep.DeepCutAuto
import Derived.Test.YtgjkjkeeblbjlaaGreatDoorGPM
import Derived.Deep.CutBlock
set_option maxRecDepth 100000
namespace Go.Proofs.YtgjkjkeeblbjlaaGreatDoor
open Go.RowKit

structure PMark where
  off : Int
  seg : Int
  pos : Int

structure PSeg where
  base : Int
  bytes : Int
  entries : Int
  marks : List PMark

/-- Is the next entry's place a mark? -/
def PSeg.marked (s : PSeg) : Bool := match s.marks.getLast? with | none => true | some m => decide (256 ≤ s.bytes - m.pos)

/-- An entry is noted. -/
def PSeg.took (s : PSeg) (base n : Int) : PSeg :=
  { s with marks := if s.marked then s.marks ++ [⟨base, s.base, s.bytes⟩] else s.marks, bytes := s.bytes + n, entries := s.entries + 1 }

def markCells (l : List PMark) : List Value := l.flatMap fun m => [.int .i64 m.off, .int .i64 m.seg, .int .i64 m.pos]
theorem markCells_len (l : List PMark) : (markCells l).length = l.length * 3 := by
  induction l with
  | nil => rfl
  | cons f l ih => unfold markCells at ih ⊢; rw [List.flatMap_cons, List.length_append, ih]; simp; omega
theorem markCells_app (a b : List PMark) : markCells (a ++ b) = markCells a ++ markCells b := by unfold markCells; rw [List.flatMap_append]

theorem Tryz.infoMark : (Tryz.prog.info? 194).map (fun i => (i.zero, i.size, i.bytes)) = some (some (.agg #[.int .i64 0, .int .i64 0, .int .i64 0]), 3, 24) := by kernel_rfl

end Go.Proofs.YtgjkjkeeblbjlaaGreatDoor

namespace Go.Proofs.YtgjkjkeeblbjlaaGreatDoor
open Go.RowKit

/-- A log. -/
structure PLog where
  name : List UInt8
  segs : List PSeg
  first : Int
  next : Int
  sure : Int
  e : Int

/-- The digits of a segment's name. -/
def digs : Nat → Int → List UInt8
  | 0, _ => []
  | k + 1, b => digs k (b / 10) ++ [UInt8.ofNat (48 + b % 10).toNat]

/-- The name of the segment that begins at an offset. -/
def segName (name : List UInt8) (base : Int) : List UInt8 := name ++ 46 :: digs 13 base

theorem digs_len (k : Nat) : ∀ b, (digs k b).length = k := by
  induction k with
  | zero => intro b; rfl
  | succ k ih => intro b; simp [digs, ih]

/-- The bytes while a name is laid: the last ones are. -/
def FileRel (B : Nat) (w : World) (base0 : Int) (a b : Value) (wr : World) : Prop :=
  ∃ (i : Nat) (base : Int) (ns : List Int), i ≤ 13 ∧ a = .int .i64 ((i : Int) - 1) ∧ b = .int .i64 base ∧ 0 ≤ base ∧ base ≤ 9223372036854775807 ∧ ns.length = 13 ∧
    Blk wr B (ns.map (Value.int .u8)).toArray 189 ∧ digs i base ++ (ns.drop i).map (fun n => UInt8.ofNat n.toNat) = digs 13 base0 ∧ Below B w wr

set_option maxHeartbeats 1000000 in
theorem file_any (l : Nat) (nm : List UInt8) (base : Int) (w : World) (hn : w.cell? ⟨l, 1, none⟩ = some (.string (bs nm))) (hnl : nm.length ≤ 1000000) (h0 : 0 ≤ base) (h1 : base ≤ 9223372036854775807) :
    Calls Tryz.prog 72 #[ptr l, .int .i64 base] w fun e w' => e = .returned (.string (bs (segName nm base))) ∧ Below w.heap.size w w' := by
  have hllt : l < w.heap.size := World.block_lt_of_cell? w _ hn
  unfold ptr
  go_enter Tryz.func72, Tryz.ntmps72
  go_wp2_with fail
  go_loopw [6, 1] (fun a b wr => FileRel w.heap.size w base a b wr) (fun a _ _ => (intOf a + 1).toNat)
  case atStart =>
    exact ⟨13, base, List.replicate 13 0, by omega, rfl, rfl, h0, h1, by simp, Blk.new _ _ _, by simp, (Below.refl _ _).alloc (Nat.le_refl _) _⟩
  case round =>
    obtain ⟨i, b, ns, hi, rfl, rfl, hb0, hb1, hns, hB, hcat, hbel⟩ := hrel
    by_cases hz : i = 0
    · subst hz
      have hnlt := hbel.cell (p := ⟨l, 1, none⟩) hllt
      have hname : wr.cell? ⟨l, 1, none⟩ = some (.string (bs nm)) := hnlt.trans hn
      have hcv := fun (n : Nat) =>
        run_convert_bytes_arg (P := Tryz.prog) (wr.drewN n) 164 5 Tryz.underlying164 Tryz.underlying5 w.heap.size 0 13 13 ns hns (by
          intro i hi
          refine (hB.drewN n).cell ?_
          simp [hns, hi])
      have hst : strOfNums ns = bs (digs 13 base) := by
        unfold strOfNums bs
        rw [← hcat]
        simp [digs]
      rw [hst] at hcv
      have hsz1 : (bs nm).size = nm.length := rfl
      have hsz2 : (bs nm ++ (⟨#[46]⟩ : ByteArray)).size = nm.length + 1 := by rw [show (⟨#[46]⟩ : ByteArray) = bs [46] from rfl, bs_append, bs_size]; simp
      have hsz3 : (bs (digs 13 base)).size = 13 := digs_len 13 base
      have hsum1 : (bs nm).size + (⟨#[46]⟩ : ByteArray).size ≤ 9223372036854775807 := by rw [hsz1]; show nm.length + 1 ≤ _; omega
      have hsum2 : (bs nm ++ (⟨#[46]⟩ : ByteArray)).size + (bs (digs 13 base)).size ≤ 9223372036854775807 := by rw [hsz2, hsz3]; omega
      have hno1 : ¬ 9223372036854775807 < (bs nm).size + (⟨#[46]⟩ : ByteArray).size := by omega
      have hno2 : ¬ 9223372036854775807 < (bs nm ++ (⟨#[46]⟩ : ByteArray)).size + (bs (digs 13 base)).size := by omega
      clear hcat hst hsz1 hsz2 hsz3 hB
      go_wp2_with fail
      go_quiet (fail)
      go_wp2_with fail
      go_ret
      refine ⟨?_, bel_next hbel (bel_drewN _ _ _)⟩
      have e : bs (segName nm base) = bs nm ++ (⟨#[46]⟩ : ByteArray) ++ bs (digs 13 base) := by
        rw [show (⟨#[46]⟩ : ByteArray) = bs [46] from rfl, bs_append, bs_append]
        unfold segName; simp
      rw [e]; rfl
    · obtain ⟨k, rfl⟩ : ∃ k, i = k + 1 := ⟨i - 1, by omega⟩
      have HN := hid hns
      have HC := hid hcat
      have HB := hid hB
      clear hns hcat hB
      have hix : ((k + 1 : Nat) : Int) - 1 = (k : Int) := by omega
      rw [hix]
      have hc : wr.cell? ⟨w.heap.size, k, none⟩ = some (.int .u8 (ns.getD k 0)) := HB.out.cell (by
        have : k < ns.length := by have := HN.out; omega
        simp [this])
      have hf := HB.out.free k
      have hr : Int.tmod b 10 = b % 10 := Int.tmod_eq_emod_of_nonneg hb0
      have hq : Int.tdiv b 10 = b / 10 := Int.tdiv_eq_ediv_of_nonneg hb0
      go_wp2_with fail
      have hm0 : 0 ≤ b % 10 := by omega
      refine ⟨⟨k, b / 10, ns.set k (48 + b % 10), by omega, rfl, rfl, by omega, by omega, by simp [HN.out], ?_, ?_, hbel.setCell (Nat.le_refl _) _⟩, ?_⟩
      · have h := HB.out.set k (.int .u8 (48 + b % 10))
        simpa using h
      · rw [← HC.out]
        have hk : k < ns.length := by have := HN.out; omega
        have hd : (ns.set k (48 + b % 10)).drop k = (48 + b % 10) :: ns.drop (k + 1) := by
          rw [List.drop_set]
          simp only [Nat.lt_irrefl, if_false, Nat.sub_self]
          rw [List.drop_eq_getElem_cons hk]
          rfl
        rw [hd]
        simp [digs]
      · simp [intOf]

end Go.Proofs.YtgjkjkeeblbjlaaGreatDoor

namespace Go.Proofs.YtgjkjkeeblbjlaaGreatDoor
open Go.RowKit

/-- The cells of segments, whose marks' slices are ms. -/
def segCells : List PSeg → List Value → List Value
  | x :: l, v :: m => [.int .i64 x.base, .int .i64 x.bytes, .int .i64 x.entries, v] ++ segCells l m
  | _, _ => []

theorem segCells_len : ∀ (l : List PSeg) (m : List Value), m.length = l.length → (segCells l m).length = l.length * 4
  | [], _, _ => by simp [segCells]
  | x :: l, [], h => by simp at h
  | x :: l, v :: m, h => by
    simp only [List.length_cons] at h
    rw [segCells, List.length_append, segCells_len l m (by omega)]
    simp; omega

theorem segCells_app : ∀ (l l' : List PSeg) (m m' : List Value), m.length = l.length → segCells (l ++ l') (m ++ m') = segCells l m ++ segCells l' m'
  | [], l', m, m', h => by
    have : m = [] := by simpa using h
    subst this
    simp [segCells]
  | x :: l, l', [], m', h => by simp at h
  | x :: l, l', v :: m, m', h => by
    simp only [List.length_cons] at h
    simp only [List.cons_append, segCells]
    rw [segCells_app l l' m m' (by omega)]
    simp

theorem segCells_at : ∀ (l : List PSeg) (m : List Value) (i : Nat) (x : PSeg) (v : Value), l[i]? = some x → m[i]? = some v → ∀ j, (segCells l m)[i * 4 + j]? = if j < 4 then [Value.int .i64 x.base, .int .i64 x.bytes, .int .i64 x.entries, v][j]? else (segCells l m)[i * 4 + j]?
  | [], _, i, x, v, h, _, _ => by simp at h
  | y :: l, [], i, x, v, _, h, _ => by simp at h
  | y :: l, u :: m, 0, x, v, h1, h2, j => by
    simp only [List.getElem?_cons_zero, Option.some.injEq] at h1 h2
    subst h1 h2
    split
    · rename_i hj
      rw [Nat.zero_mul, Nat.zero_add, segCells, List.getElem?_append_left (by simpa using hj)]
    · rfl
  | y :: l, u :: m, i + 1, x, v, h1, h2, j => by
    simp only [List.getElem?_cons_succ] at h1 h2
    have e : (i + 1) * 4 + j = 4 + (i * 4 + j) := by omega
    split
    · rename_i hj
      rw [e, segCells, List.getElem?_append_right (by simp)]
      simp only [List.length_cons, List.length_nil]
      rw [show 4 + (i * 4 + j) - (0 + 1 + 1 + 1 + 1) = i * 4 + j from by omega, segCells_at l m i x v h1 h2 j, if_pos hj]
    · rfl

structure LogRep (w : World) (l d : Nat) (ms : List Value) (sv : Value) (L : PLog) : Prop where
  hdr : Blk w l #[ptr d, .string (bs L.name), sv, .int .i64 L.first, .int .i64 L.next, .int .i64 L.sure, .int .i64 L.e] 122
  len : ms.length = L.segs.length
  segs : w.ownsRow 0 147 4 sv L.segs.length (segCells L.segs ms)
  marks : ∀ (i : Nat) (x : PSeg) (v : Value), L.segs[i]? = some x → ms[i]? = some v → w.ownsRow 0 194 3 v x.marks.length (markCells x.marks)
  apart : ∀ (i j : Nat) (a b : Value) (k : Nat), ms[i]? = some a → ms[j]? = some b → a.ownBlock = some k → b.ownBlock = some k → i = j

/-- The blocks of a log. -/
def footL (l : Nat) (ms : List Value) (sv : Value) (k : Nat) : Prop := k = l ∨ sv.ownBlock = some k ∨ ∃ v ∈ ms, v.ownBlock = some k

def LogAt (w : World) (l d : Nat) (S : Nat → Prop) (L : PLog) : Prop := ∃ ms sv, LogRep w l d ms sv L ∧ ∀ k, S k ↔ footL l ms sv k

/-- A row stands where its block does. -/
theorem row_fr {S : Nat → Prop} {w w' : World} {base : Nat} {e : TypeId} {size : Nat} {v : Value} {n : Nat} {xs : List Value} (h : w.ownsRow base e size v n xs) (hf : Fr S w w') (hn : ∀ k, v.ownBlock = some k → ¬ S k) : w'.ownsRow base e size v n xs := by
  refine ⟨h.1, ?_⟩
  rcases h.2 with h2 | ⟨g, cap, cur, hv, hg, hh, r⟩
  · exact .inl h2
  · exact .inr ⟨g, cap, cur, hv, hg, (hf.block g (Array.getElem?_eq_some_iff.1 hh).1 (hn g (by rw [hv]; rfl))).trans hh, r⟩

theorem LogRep.fr {S : Nat → Prop} {w w' : World} {l d : Nat} {ms : List Value} {sv : Value} {L : PLog} (h : LogRep w l d ms sv L) (hf : Fr S w w') (hn : ∀ k, footL l ms sv k → ¬ S k) : LogRep w' l d ms sv L :=
  ⟨h.hdr.fr hf (hn _ (.inl rfl)), h.len, row_fr h.segs hf (fun k hk => hn k (.inr (.inl hk))),
   fun i x v hx hv => row_fr (h.marks i x v hx hv) hf (fun k hk => hn k (.inr (.inr ⟨v, List.mem_of_getElem? hv, hk⟩))), h.apart⟩

theorem LogAt.fr {S S0 : Nat → Prop} {w w' : World} {l d : Nat} {L : PLog} (h : LogAt w l d S L) (hf : Fr S0 w w') (hn : ∀ k, S k → ¬ S0 k) : LogAt w' l d S L := by
  obtain ⟨ms, sv, h1, h2⟩ := h
  exact ⟨ms, sv, h1.fr hf (fun k hk => hn k ((h2 k).2 hk)), h2⟩

theorem LogAt.below {S : Nat → Prop} {w w' : World} {l d : Nat} {L : PLog} (h : LogAt w l d S L) (hb : Below w.heap.size w w') : LogAt w' l d S L :=
  h.fr (S0 := fun _ => False) (Fr.of_below hb) (fun _ _ h => h)

/-- Of what type a block of a log is. -/
theorem LogRep.kind {w : World} {l d : Nat} {ms : List Value} {sv : Value} {L : PLog} (h : LogRep w l d ms sv L) {k : Nat} (hk : footL l ms sv k) :
    ∃ c T fz, w.heap[k]? = some (.cells c T fz) ∧ (T = 122 ∨ T = 147 ∨ T = 194) := by
  rcases hk with rfl | hk | ⟨v, hv, hk⟩
  · exact ⟨_, _, _, h.hdr, .inl rfl⟩
  · obtain ⟨c, fz, hc⟩ := Lib.ownsRow_kind h.segs k hk
    exact ⟨c, _, fz, hc, .inr (.inl rfl)⟩
  · obtain ⟨i, hi, he⟩ := List.mem_iff_getElem.1 hv
    have hm : ms[i]? = some v := by rw [List.getElem?_eq_getElem hi, he]
    have hi2 : i < L.segs.length := by rw [← h.len]; exact hi
    obtain ⟨c, fz, hc⟩ := Lib.ownsRow_kind (h.marks i _ v (List.getElem?_eq_getElem hi2) hm) k hk
    exact ⟨c, _, fz, hc, .inr (.inr rfl)⟩

theorem LogAt.kind {S : Nat → Prop} {w : World} {l d : Nat} {L : PLog} (h : LogAt w l d S L) {k : Nat} (hk : S k) :
    ∃ c T fz, w.heap[k]? = some (.cells c T fz) ∧ (T = 122 ∨ T = 147 ∨ T = 194) := by
  obtain ⟨ms, sv, h1, h2⟩ := h
  exact h1.kind ((h2 k).1 hk)

theorem LogAt.lt {S : Nat → Prop} {w : World} {l d : Nat} {L : PLog} (h : LogAt w l d S L) {k : Nat} (hk : S k) : k < w.heap.size := by
  obtain ⟨c, T, fz, hc, _⟩ := h.kind hk
  exact (Array.getElem?_eq_some_iff.1 hc).1

theorem LogAt.other {S : Nat → Prop} {w : World} {l d k : Nat} {L : PLog} (h : LogAt w l d S L) {c : Array Value} {T : TypeId} {fz : Nat × Nat} (hb : w.heap[k]? = some (.cells c T fz)) (h1 : T ≠ 122) (h2 : T ≠ 147) (h3 : T ≠ 194) : ¬ S k := by
  intro hs
  obtain ⟨c', T', fz', hc, ht⟩ := h.kind hs
  rw [hb] at hc
  simp only [Option.some.injEq, Obj.cells.injEq] at hc
  rcases ht with e | e | e
  · exact h1 (hc.2.1.trans e)
  · exact h2 (hc.2.1.trans e)
  · exact h3 (hc.2.1.trans e)

/-- No block of a log is a disk's. -/
theorem LogAt.apart {S SD : Nat → Prop} {w : World} {l d d' : Nat} {L : PLog} {D : PDisk} (h : LogAt w l d S L) (hd : DiskAt w d' SD D) {k : Nat} (hk : S k) : ¬ SD k := by
  obtain ⟨c, T, fz, hc, ht⟩ := h.kind hk
  intro hs
  obtain ⟨m, fs, hr, hS⟩ := hd
  have key : ∀ T' c', Blk w k c' T' → T' ≠ 122 → T' ≠ 147 → T' ≠ 194 → False := by
    intro T' c' hb n1 n2 n3
    unfold Blk at hb
    rw [hc] at hb
    simp only [Option.some.injEq, Obj.cells.injEq] at hb
    rcases ht with e | e | e
    · exact n1 (hb.2.1.symm.trans e)
    · exact n2 (hb.2.1.symm.trans e)
    · exact n3 (hb.2.1.symm.trans e)
  rcases (hS k).1 hs with rfl | rfl | hk'
  · exact key _ _ hr.hdr (by decide) (by decide) (by decide)
  · obtain ⟨es, ck, hm, _⟩ := hr.map
    rw [hc] at hm
    cases hm
  · obtain ⟨x, hx, rfl⟩ := List.mem_map.1 hk'
    exact key _ _ (hr.blk x hx) (by decide) (by decide) (by decide)

section
variable {w : World} {l d : Nat} {ms : List Value} {sv : Value} {L : PLog}

theorem LogRep.cells (h : LogRep w l d ms sv L) : w.cell? ⟨l, 0, none⟩ = some (.pointer (some ⟨d, 0, none⟩)) ∧ w.cell? ⟨l, 1, none⟩ = some (.string (bs L.name)) ∧ w.cell? ⟨l, 2, none⟩ = some sv ∧ w.cell? ⟨l, 3, none⟩ = some (.int .i64 L.first) ∧ w.cell? ⟨l, 4, none⟩ = some (.int .i64 L.next) ∧ w.cell? ⟨l, 5, none⟩ = some (.int .i64 L.sure) ∧ w.cell? ⟨l, 6, none⟩ = some (.int .i64 L.e) :=
  ⟨h.hdr.cell rfl, h.hdr.cell rfl, h.hdr.cell rfl, h.hdr.cell rfl, h.hdr.cell rfl, h.hdr.cell rfl, h.hdr.cell rfl⟩

theorem LogRep.form (h : LogRep w l d ms sv L) : ∃ ad cap, sv = .slice ad L.segs.length cap ∧ ∀ (i : Nat) (x : PSeg) (v : Value), L.segs[i]? = some x → ms[i]? = some v → ∃ g, ad = some ⟨g, 0, none⟩ ∧ w.cell? ⟨g, i * 4, none⟩ = some (.int .i64 x.base) ∧ w.cell? ⟨g, i * 4 + 1, none⟩ = some (.int .i64 x.bytes) ∧ w.cell? ⟨g, i * 4 + 2, none⟩ = some (.int .i64 x.entries) ∧ w.cell? ⟨g, i * 4 + 3, none⟩ = some v := by
  rcases Joins.ownsRow_forms h.segs with ⟨e, hz⟩ | ⟨g, cap, rfl⟩
  · refine ⟨none, 0, by rw [e, hz], fun i x v hx _ => ?_⟩
    have := (List.getElem?_eq_some_iff.1 hx).1
    omega
  · refine ⟨_, cap, rfl, fun i x v hx hv => ⟨g, rfl, ?_⟩⟩
    have hi := (List.getElem?_eq_some_iff.1 hx).1
    have hat := segCells_at L.segs ms i x v hx hv
    refine ⟨?_, ?_, ?_, ?_⟩
    · have := hat 0; rw [Nat.add_zero] at this; rw [h.segs.cellAt _ (by omega), this]; rfl
    · rw [h.segs.cellAt _ (by omega), hat 1]; rfl
    · rw [h.segs.cellAt _ (by omega), hat 2]; rfl
    · rw [h.segs.cellAt _ (by omega), hat 3]; rfl
end

end Go.Proofs.YtgjkjkeeblbjlaaGreatDoor

namespace Go.Proofs.YtgjkjkeeblbjlaaGreatDoor
open Go.RowKit

/-- The segment that is written to. -/
def PLog.act (L : PLog) : Option PSeg := match L.segs.getLast? with | none => none | some x => if x.bytes < 1024 then some x else none

set_option maxHeartbeats 1000000 in
theorem active_some {w : World} {l d : Nat} {ms : List Value} {L : PLog} {g cap : Nat} {a : List PSeg} {x : PSeg} (h : LogRep w l d ms (.slice (some ⟨g, 0, none⟩) L.segs.length cap) L) (hs : L.segs = a ++ [x]) (hx : x.bytes < 1024) (hlen : L.segs.length ≤ 1000000) :
    Calls Tryz.prog 92 #[ptr l] w fun e w' => e = .returned (.pointer (some ⟨g, a.length * 4, none⟩)) ∧ w = w' := by
  obtain ⟨c0, c1, c2, c3, c4, c5, c6⟩ := h.cells
  have hn : L.segs.length = a.length + 1 := by rw [hs]; simp
  have hl := h.len
  obtain ⟨v, hv⟩ : ∃ v, ms[a.length]? = some v := ⟨_, List.getElem?_eq_getElem (by omega)⟩
  obtain ⟨ad, cap', he, hat⟩ := h.form
  injection he with e1 _ _
  subst e1
  obtain ⟨g', hg, b0, b1, b2, b3⟩ := hat a.length x v (by rw [hs]; simp) hv
  simp only [Option.some.injEq, Addr.mk.injEq] at hg
  obtain ⟨rfl, _⟩ := hg
  rw [hn] at c2 hlen
  have H := hid h
  have HS := hid hs
  clear h hs hn hl hat hv
  unfold ptr
  go_enter Tryz.func92, Tryz.ntmps92
  go_wp2_with fail
  go_ret
  exact ⟨rfl, rfl⟩

set_option maxHeartbeats 1000000 in
theorem active_none {w : World} {l d : Nat} {ms : List Value} {sv : Value} {L : PLog} (h : LogRep w l d ms sv L) (hx : L.act = none) (hlen : L.segs.length ≤ 1000000) :
    Calls Tryz.prog 92 #[ptr l] w fun e w' => e = .returned (.pointer none) ∧ w = w' := by
  obtain ⟨c0, c1, c2, c3, c4, c5, c6⟩ := h.cells
  obtain ⟨ad, cap, rfl, hat⟩ := h.form
  have hl := h.len
  cases hs : L.segs.getLast? with
  | none =>
    have hn : L.segs.length = 0 := by have : L.segs = [] := by simpa using hs
                                      rw [this]; rfl
    rw [hn] at c2
    clear h hs hat hx hn hl hlen
    unfold ptr
    go_enter Tryz.func92, Tryz.ntmps92
    go_wp2_with fail
    go_ret
    exact ⟨rfl, rfl⟩
  | some x =>
    obtain ⟨a, ha⟩ : ∃ a, L.segs = a ++ [x] := by rw [List.getLast?_eq_some_iff] at hs; exact hs
    have hn : L.segs.length = a.length + 1 := by rw [ha]; simp
    have hb : ¬ x.bytes < 1024 := by
      unfold PLog.act at hx
      rw [hs] at hx
      simpa using hx
    obtain ⟨v, hv⟩ : ∃ v, ms[a.length]? = some v := ⟨_, List.getElem?_eq_getElem (by omega)⟩
    obtain ⟨g', rfl, b0, b1, b2, b3⟩ := hat a.length x v (by rw [ha]; simp) hv
    rw [hn] at c2 hlen
    clear h hs ha hat hx hn hl hv
    unfold ptr
    go_enter Tryz.func92, Tryz.ntmps92
    go_wp2_with fail
    go_ret
    exact ⟨rfl, rfl⟩

section
variable {w : World} {l d : Nat} {S : Nat → Prop} {L : PLog}

set_option maxHeartbeats 400000 in
theorem first_any (h : LogAt w l d S L) : Calls Tryz.prog 44 #[ptr l] w fun e w' => e = .returned (.int .i64 L.first) ∧ w = w' := by
  obtain ⟨ms, sv, h, _⟩ := h
  obtain ⟨c0, c1, c2, c3, c4, c5, c6⟩ := h.cells
  unfold ptr
  go_enter Tryz.func44, Tryz.ntmps44
  go_wp2_with fail
  go_ret
  exact ⟨rfl, rfl⟩

set_option maxHeartbeats 400000 in
theorem next_any (h : LogAt w l d S L) : Calls Tryz.prog 35 #[ptr l] w fun e w' => e = .returned (.int .i64 L.next) ∧ w = w' := by
  obtain ⟨ms, sv, h, _⟩ := h
  obtain ⟨c0, c1, c2, c3, c4, c5, c6⟩ := h.cells
  unfold ptr
  go_enter Tryz.func35, Tryz.ntmps35
  go_wp2_with fail
  go_ret
  exact ⟨rfl, rfl⟩

set_option maxHeartbeats 400000 in
theorem broken_any (h : LogAt w l d S L) : Calls Tryz.prog 37 #[ptr l] w fun e w' => e = .returned (.int .i64 L.e) ∧ w = w' := by
  obtain ⟨ms, sv, h, _⟩ := h
  obtain ⟨c0, c1, c2, c3, c4, c5, c6⟩ := h.cells
  unfold ptr
  go_enter Tryz.func37, Tryz.ntmps37
  go_wp2_with fail
  go_ret
  exact ⟨rfl, rfl⟩
end

section
variable {w : World}
set_option maxHeartbeats 400000 in
theorem append_nil (v : Value) : Calls Tryz.prog 58 #[.pointer none, v] w fun e w' => e = .returned (.tuple #[.int .i64 0, .int .i64 1]) ∧ w = w' := by
  go_enter Tryz.func58, Tryz.ntmps58
  go_wp2_with fail
  go_ret2
  exact ⟨rfl, rfl⟩
set_option maxHeartbeats 400000 in
theorem open_nil (s : ByteArray) : Calls Tryz.prog 43 #[.pointer none, .string s] w fun e w' => e = .returned (.tuple #[.pointer none, .int .i64 1]) ∧ w = w' := by
  go_enter Tryz.func43, Tryz.ntmps43
  go_wp2_with fail
  go_ret2
  exact ⟨rfl, rfl⟩
end

end Go.Proofs.YtgjkjkeeblbjlaaGreatDoor

namespace Go.Proofs.YtgjkjkeeblbjlaaGreatDoor
open Go.RowKit

/-- What a log's function does to it and to its disk. -/
def LogTo (w w' : World) (l d : Nat) (S SD : Nat → Prop) (L' : PLog) (D' : PDisk) : Prop :=
  ∃ S' SD', LogAt w' l d S' L' ∧ DiskAt w' d SD' D' ∧ Fr (fun k => S k ∨ SD k) w w' ∧ (∀ k, S' k → S k ∨ w.heap.size ≤ k) ∧ (∀ k, SD' k → SD k ∨ w.heap.size ≤ k)

theorem LogTo.of_below {w w' : World} {l d : Nat} {S SD : Nat → Prop} {L : PLog} {D : PDisk} (h : LogAt w l d S L) (hd : DiskAt w d SD D) (hb : Below w.heap.size w w') : LogTo w w' l d S SD L D :=
  ⟨S, SD, h.below hb, hd.below hb, Fr.of_below hb, fun _ hk => .inl hk, fun _ hk => .inl hk⟩

theorem LogTo.trans {w w1 w2 : World} {l d : Nat} {S SD : Nat → Prop} {L1 L2 : PLog} {D1 D2 : PDisk} (h : LogTo w w1 l d S SD L1 D1) (h2 : ∀ S1 SD1, LogAt w1 l d S1 L1 → DiskAt w1 d SD1 D1 → LogTo w1 w2 l d S1 SD1 L2 D2) : LogTo w w2 l d S SD L2 D2 := by
  obtain ⟨S1, SD1, a1, b1, f1, s1, t1⟩ := h
  obtain ⟨S2, SD2, a2, b2, f2, s2, t2⟩ := h2 S1 SD1 a1 b1
  have hsz := f1.size
  refine ⟨S2, SD2, a2, b2, ⟨f2.os.trans f1.os, f2.tape.trans f1.tape, f2.output.trans f1.output, Nat.le_trans f1.size f2.size, fun k hk hn => ?_⟩, fun k hk => ?_, fun k hk => ?_⟩
  · refine (f2.block k (by omega) (fun h => ?_)).trans (f1.block k hk hn)
    rcases h with h | h
    · exact (s1 k h).elim (fun h => hn (.inl h)) (by omega)
    · exact (t1 k h).elim (fun h => hn (.inr h)) (by omega)
  · rcases s2 k hk with h | h
    · exact s1 k h
    · exact .inr (by omega)
  · rcases t2 k hk with h | h
    · exact t1 k h
    · exact .inr (by omega)

def PLog.sync (L : PLog) (D : PDisk) : PLog × PDisk × Int :=
  match L.segs.getLast? with
  | none => (L, D, L.e)
  | some x => if L.e ≠ 0 then (L, D, L.e) else
    let r := D.sync (segName L.name x.base)
    ({ L with e := r.2, sure := if r.2 = 0 then L.next else L.sure }, r.1, r.2)

structure PLog.WF (L : PLog) : Prop where
  name : L.name.length ≤ 8
  count : L.segs.length ≤ 1000000
  base : ∀ x ∈ L.segs, 0 ≤ x.base ∧ x.base ≤ 1099511627776
  bytes : ∀ x ∈ L.segs, 0 ≤ x.bytes ∧ x.bytes ≤ 1099511627776
  entries : ∀ x ∈ L.segs, 0 ≤ x.entries ∧ x.entries ≤ 1000000000
  marks : ∀ x ∈ L.segs, x.marks.length ≤ 1000000 ∧ ∀ y ∈ x.marks, 0 ≤ y.pos ∧ y.pos ≤ x.bytes
  next : 0 ≤ L.next ∧ L.next ≤ 1099511627776

/-- Other numbers in a log's head. -/
theorem LogRep.set {w w' : World} {l d : Nat} {ms : List Value} {sv : Value} {L : PLog} (h : LogRep w l d ms sv L) (hf : Fr (fun k => k = l) w w') {f n s e : Int}
    (hb : Blk w' l #[ptr d, .string (bs L.name), sv, .int .i64 f, .int .i64 n, .int .i64 s, .int .i64 e] 122) : LogRep w' l d ms sv { L with first := f, next := n, sure := s, e := e } := by
  refine ⟨hb, h.len, row_fr h.segs hf ?_, fun i x v hx hv => row_fr (h.marks i x v hx hv) hf ?_, h.apart⟩
  · rintro k hk rfl
    obtain ⟨c, fz, hc⟩ := Lib.ownsRow_kind h.segs _ hk
    have := h.hdr
    unfold Blk at this
    rw [this] at hc
    cases hc
  · rintro k hk rfl
    obtain ⟨c, fz, hc⟩ := Lib.ownsRow_kind (h.marks i x v hx hv) _ hk
    have := h.hdr
    unfold Blk at this
    rw [this] at hc
    cases hc

set_option maxHeartbeats 2000000 in
theorem logSync_not {w : World} {l d : Nat} {S SD : Nat → Prop} {L : PLog} {D : PDisk} (h : LogAt w l d S L) (hd : DiskAt w d SD D) (hn : L.segs = [] ∨ L.e ≠ 0) :
    Calls Tryz.prog 59 #[ptr l] w fun e w' => e = .returned (.int .i64 (L.sync D).2.2) ∧ LogTo w w' l d S SD (L.sync D).1 (L.sync D).2.1 := by
  have HF : Hid (L.sync D = (L, D, L.e)) := by
    unfold PLog.sync
    rcases hn with h | h
    · rw [h]; exact hid rfl
    · cases L.segs.getLast? with
      | none => exact hid rfl
      | some x => simp only; rw [if_pos h]; exact hid rfl
  have HL := hid h
  obtain ⟨ms, sv, h, _⟩ := h
  obtain ⟨c0, c1, c2, c3, c4, c5, c6⟩ := h.cells
  obtain ⟨ad, cap, rfl, hat⟩ := h.form
  clear hat h
  unfold ptr
  by_cases he : L.e = 0
  · have hz : L.segs.length = 0 := by
      rcases hn with h | h
      · rw [h]; rfl
      · exact absurd he h
    rw [hz] at c2
    rw [he] at c6
    clear hn
    go_enter Tryz.func59, Tryz.ntmps59
    go_wp2_with fail
    go_ret
    rw [HF.out]
    exact ⟨by rw [he]; rfl, .of_below HL.out hd (Below.refl _ _)⟩
  · clear hn
    go_enter Tryz.func59, Tryz.ntmps59
    go_wp2_with fail
    go_ret
    rw [HF.out]
    exact ⟨rfl, .of_below HL.out hd (Below.refl _ _)⟩

set_option maxHeartbeats 4000000 in
theorem logSync_some {w : World} {l d : Nat} {S SD : Nat → Prop} {L : PLog} {D : PDisk} {N : Int} {a : List PSeg} {x : PSeg} (h : LogAt w l d S L) (hd : DiskAt w d SD D) (hw : D.WF N) (hwl : L.WF) (hs : L.segs = a ++ [x]) (he : L.e = 0) :
    Calls Tryz.prog 59 #[ptr l] w fun e w' => e = .returned (.int .i64 (L.sync D).2.2) ∧ LogTo w w' l d S SD (L.sync D).1 (L.sync D).2.1 := by
  have HF : Hid (L.sync D = ({ L with e := (D.sync (segName L.name x.base)).2, sure := if (D.sync (segName L.name x.base)).2 = 0 then L.next else L.sure }, (D.sync (segName L.name x.base)).1, (D.sync (segName L.name x.base)).2)) := by
    unfold PLog.sync
    rw [hs, List.getLast?_append]
    simp only [List.getLast?_singleton, Option.some_or]
    rw [if_neg (by rw [he]; decide)]
    exact hid rfl
  have HL := hid h
  have HD := hid hd
  have HS0 : ∀ k, S k → ¬ SD k := fun k hk => h.apart hd hk
  obtain ⟨ms, sv, h, hS⟩ := h
  obtain ⟨c0, c1, c2, c3, c4, c5, c6⟩ := h.cells
  rw [he] at c6
  have hn : L.segs.length = a.length + 1 := by rw [hs]; simp
  have hcnt := hwl.count
  have hname := hwl.name
  have hbase := hwl.base x (by rw [hs]; simp)
  obtain ⟨v, hv⟩ : ∃ v, ms[a.length]? = some v := ⟨_, List.getElem?_eq_getElem (by rw [h.len]; omega)⟩
  obtain ⟨ad, cap, rfl, hat⟩ := h.form
  obtain ⟨g, rfl, b0, _, _, _⟩ := hat a.length x v (by rw [hs]; simp) hv
  rw [hn] at c2 hcnt
  have hllt := h.hdr.lt
  have f6 := h.hdr.free 6
  have hnl : ¬ SD l := HS0 l ((hS l).2 (.inl rfl))
  have hng : ¬ SD g := HS0 g ((hS g).2 (.inr (.inl rfl)))
  have hlg : l ≠ g := by
    rintro rfl
    obtain ⟨c, fz, hc⟩ := Lib.ownsRow_kind h.segs l rfl
    have := h.hdr
    unfold Blk at this
    rw [this] at hc
    cases hc
  have hglt : g < w.heap.size := World.block_lt_of_cell? w _ b0
  have hsl : (segName L.name x.base).length ≤ 1099511627776 := by unfold segName; simp [digs_len]; omega
  have HREP := hid h
  have HHS := hid hS
  have HAP := hid HS0
  have HSS := hid hs
  have hiw : IntKind.i64.wrap (a.length : Int) = a.length := IntWalk.i64_in _ (by omega)
  have hj0 : (0 : Int) ≤ (a.length : Int) := by omega
  have hj1 : (a.length : Int) < (a.length : Int) + 1 := by omega
  clear h hS hs hat hv HS0 hn hd
  unfold ptr
  go_enter Tryz.func59, Tryz.ntmps59
  go_wp2_with fail
  go_region_held3 (fun w' => w'.cell? ⟨l, 0, none⟩ = some (.pointer (some ⟨d, 0, none⟩)) ∧ w'.cell? ⟨l, 1, none⟩ = some (.string (bs L.name)) ∧ w'.cell? ⟨l, 2, none⟩ = some (.slice (some ⟨g, 0, none⟩) (a.length + 1) cap) ∧ w'.cell? ⟨g, a.length * 4, none⟩ = some (.int .i64 x.base))
    ((repeat' apply And.intro) <;> (first | (rw [World.cell?_setCell_other _ _ _ _ (by simp)]; assumption) | go_keep))
    ((first
      | (go_at_call 72; refine (file_any l L.name x.base _ ?_ (by omega) hbase.1 (by omega)).mono ?_; (go_simp); rintro e w2 ⟨rfl, hb2⟩; have d20 : w2.cell? ⟨l, 0, none⟩ = some (.pointer (some ⟨d, 0, none⟩)) := (hb2.cell (by (try simp); omega)).trans (by go_simp); have d21 : w2.cell? ⟨l, 1, none⟩ = some (.string (bs L.name)) := (hb2.cell (by (try simp); omega)).trans (by go_simp); have d22 : w2.cell? ⟨l, 2, none⟩ = some (.slice (some ⟨g, 0, none⟩) (a.length + 1) cap) := (hb2.cell (by (try simp); omega)).trans (by go_simp); have d23 : w2.cell? ⟨g, a.length * 4, none⟩ = some (.int .i64 x.base) := (hb2.cell (by (try simp); omega)).trans (by go_simp); have hz2 := hb2.size; (try simp at hz2); have HB2 := hid (show Below w.heap.size w w2 from ⟨hb2.os, hb2.tape, hb2.output, hb2.size, hb2.block⟩))
      | (go_at_call 70; refine (sync_any d SD D N _ _ (HD.out.below HB2.out) hw hsl).mono ?_; rintro e w3 ⟨rfl, hto3⟩; have HTO := hid hto3; obtain ⟨SD1, hd1, hto, hsd1⟩ := hto3; have d30 : w3.cell? ⟨l, 0, none⟩ = some (.pointer (some ⟨d, 0, none⟩)) := (World.cell?_of_block (hto.block _ (by (try simp); omega) hnl)).trans (by assumption); have d31 : w3.cell? ⟨l, 1, none⟩ = some (.string (bs L.name)) := (World.cell?_of_block (hto.block _ (by (try simp); omega) hnl)).trans (by assumption); have d32 : w3.cell? ⟨l, 2, none⟩ = some (.slice (some ⟨g, 0, none⟩) (a.length + 1) cap) := (World.cell?_of_block (hto.block _ (by (try simp); omega) hnl)).trans (by assumption); have d33 : w3.cell? ⟨g, a.length * 4, none⟩ = some (.int .i64 x.base) := (World.cell?_of_block (hto.block _ (by (try simp); omega) hng)).trans (by assumption); have d36 : w3.cell? ⟨l, 6, none⟩ = some (.int .i64 0) := (World.cell?_of_block (hto.block _ (by (try simp); omega) hnl)).trans ((HB2.out.cell (p := ⟨l, 6, none⟩) hllt).trans c6); have f36 : w3.frozen? ⟨l, 6, none⟩ = false := (World.frozen?_of_block (hto.block _ (by (try simp); omega) hnl)).trans ((HB2.out.frozen (p := ⟨l, 6, none⟩) hllt).trans f6); have hz3 := hto.size; clear hd1 hto hsd1)))
  obtain ⟨SD1, hd1, hto, hsd1⟩ := HTO.out
  have hfw : Fr SD w w3 := (Fr.of_below HB2.out).trans hto
  have hrep3 : LogRep w3 l d ms (.slice (some ⟨g, 0, none⟩) L.segs.length cap) L := HREP.out.fr hfw (fun k hk => HAP.out k ((HHS.out k).2 hk))
  have hlen : L.segs.length = a.length + 1 := by rw [HSS.out]; simp
  generalize (D.sync (segName L.name x.base)).2 = e2 at *
  have hb4 : Blk (w3.setCell ⟨l, 6, none⟩ (.int .i64 e2)) l #[ptr d, .string (bs L.name), .slice (some ⟨g, 0, none⟩) L.segs.length cap, .int .i64 L.first, .int .i64 L.next, .int .i64 L.sure, .int .i64 e2] 122 := hrep3.hdr.set 6 (.int .i64 e2)
  have hf4 : Fr (fun k => k = l) w3 (w3.setCell ⟨l, 6, none⟩ (.int .i64 e2)) := Fr.setCell (S := fun k => k = l) (p := ⟨l, 6, none⟩) (Fr.refl _ _) (.inl rfl) _
  have hSl : S l := (HHS.out l).2 (.inl rfl)
  have hn1 : ∀ k, SD1 k → ¬ k = l := by
    rintro k hk rfl
    rcases hsd1 k hk with h | h
    · exact hnl h
    · omega
  have fin : ∀ (w5 : World) (s' : Int), Fr (fun k => k = l) w3 w5 → Blk w5 l #[ptr d, .string (bs L.name), .slice (some ⟨g, 0, none⟩) L.segs.length cap, .int .i64 L.first, .int .i64 L.next, .int .i64 s', .int .i64 e2] 122 →
      LogTo w w5 l d S SD { L with e := e2, sure := s' } (D.sync (segName L.name x.base)).1 := by
    intro w5 s' hf5 hb5
    refine ⟨S, SD1, ⟨ms, _, hrep3.set hf5 hb5, HHS.out⟩, hd1.fr hf5 hn1, ?_, fun k hk => .inl hk, fun k hk => ?_⟩
    · exact (hfw.mono (fun k _ h => .inr h)).trans (hf5.mono (by rintro k _ rfl; exact .inl hSl))
    · rcases hsd1 k hk with h | h
      · exact .inl h
      · exact .inr (by omega)
  have HFIN := hid fin
  have g4 := hb4.cell (i := 4) (v := .int .i64 L.next) rfl
  have g5 := hb4.cell (i := 5) (v := .int .i64 L.sure) rfl
  have g6 := hb4.cell (i := 6) (v := .int .i64 e2) rfl
  have k5 := hb4.free 5
  have hb6 : Blk ((w3.setCell ⟨l, 6, none⟩ (.int .i64 e2)).setCell ⟨l, 5, none⟩ (.int .i64 L.next)) l #[ptr d, .string (bs L.name), .slice (some ⟨g, 0, none⟩) L.segs.length cap, .int .i64 L.first, .int .i64 L.next, .int .i64 L.next, .int .i64 e2] 122 := hb4.set 5 (.int .i64 L.next)
  have hf6 : Fr (fun k => k = l) w3 ((w3.setCell ⟨l, 6, none⟩ (.int .i64 e2)).setCell ⟨l, 5, none⟩ (.int .i64 L.next)) := Fr.setCell (S := fun k => k = l) (p := ⟨l, 5, none⟩) hf4 (.inl rfl) _
  have HB4 := hid hb4
  have HF4 := hid hf4
  have HB6 := hid hb6
  have HF6 := hid hf6
  have m6 := hb6.cell (i := 6) (v := .int .i64 e2) rfl
  generalize hW4 : w3.setCell ⟨l, 6, none⟩ (.int .i64 e2) = W4 at *
  clear fin hb4 hf4 hb6 hf6 hrep3 hd1 hto hsd1 hfw hn1 c0 c1 c2 c3 c4 c5 c6 d20 d21 d22 d23 d30 d31 d32 d33 d36 f36 f6
  by_cases h0 : e2 = 0
  · have hz : (e2 == 0) = true := by simpa using h0
    rw [if_pos h0] at HF
    go_wp2_with fail
    go_ret
    rw [HF.out]
    exact ⟨by rw [h0]; rfl, HFIN.out _ _ HF6.out HB6.out⟩
  · rw [if_neg h0] at HF
    go_wp2_with fail
    go_ret
    rw [HF.out]
    exact ⟨rfl, HFIN.out _ _ HF4.out HB4.out⟩

/-- **Sync.** -/
theorem logSync_any {w : World} {l d : Nat} {S SD : Nat → Prop} {L : PLog} {D : PDisk} {N : Int} (h : LogAt w l d S L) (hd : DiskAt w d SD D) (hw : D.WF N) (hwl : L.WF) :
    Calls Tryz.prog 59 #[ptr l] w fun e w' => e = .returned (.int .i64 (L.sync D).2.2) ∧ LogTo w w' l d S SD (L.sync D).1 (L.sync D).2.1 := by
  by_cases he : L.e = 0
  · cases hs : L.segs.getLast? with
    | none => exact logSync_not h hd (.inl (by simpa using hs))
    | some x =>
      obtain ⟨a, ha⟩ : ∃ a, L.segs = a ++ [x] := by rw [List.getLast?_eq_some_iff] at hs; exact hs
      exact logSync_some h hd hw hwl ha he
  · exact logSync_not h hd (.inr he)

end Go.Proofs.YtgjkjkeeblbjlaaGreatDoor

namespace Go.Proofs.YtgjkjkeeblbjlaaGreatDoor
open Go.RowKit
attribute [local go_sem ↓] Go.wp_at_zero Go.wp_at_succ

/-- The cells of a segment, changed. -/
def segSet (cs : Array Value) (o : Nat) (x : PSeg) (mv : Value) : Array Value :=
  ((cs.setIfInBounds (o + 3) mv).setIfInBounds (o + 1) (.int .i64 x.bytes)).setIfInBounds (o + 2) (.int .i64 x.entries)

/-- What took leaves. -/
def TookPost (g o : Nat) (cs : Array Value) (mv : Value) (x' : PSeg) (w : World) (r : Ending) (w' : World) : Prop :=
  ∃ mv', r = .returned (.tuple #[]) ∧ Blk w' g (segSet cs o x' mv') 147 ∧ w'.ownsRow 0 194 3 mv' x'.marks.length (markCells x'.marks) ∧
    (mv'.ownBlock = mv.ownBlock ∨ ∃ k, mv'.ownBlock = some k ∧ w.heap.size ≤ k) ∧ Fr (fun k => k = g ∨ mv.ownBlock = some k) w w'

set_option maxHeartbeats 8000000 in
theorem took_mark (g o : Nat) (cs : Array Value) (x : PSeg) (mv : Value) (b m n : Int) (tx : ByteArray) (w : World) (hb : Blk w g cs 147)
    (h0 : cs[o]? = some (.int .i64 x.base)) (h1 : cs[o + 1]? = some (.int .i64 x.bytes)) (h2 : cs[o + 2]? = some (.int .i64 x.entries)) (h3 : cs[o + 3]? = some mv)
    (hm : w.ownsRow 0 194 3 mv x.marks.length (markCells x.marks)) (hk : x.marked = true) (hs : x.marks.length ≤ 1048576) (hb0 : 0 ≤ x.bytes) (hb1 : x.bytes + n ≤ 1099511627776) (hn0 : 0 ≤ n) (he0 : 0 ≤ x.entries) (he1 : x.entries ≤ 1099511627776)
    (hp : ∀ y ∈ x.marks, 0 ≤ y.pos ∧ y.pos ≤ 1099511627776) :
    Calls Tryz.prog 95 #[.pointer (some ⟨g, o, none⟩), .agg #[.int .i64 b, .int .i64 m, .string tx], .int .i64 n] w (TookPost g o cs mv (x.took b n) w) := by
  obtain ⟨i0, hi, hz0, hz1, hz2⟩ := info_parts Tryz.infoMark
  have htook : x.took b n = { x with marks := x.marks ++ [⟨b, x.base, x.bytes⟩], bytes := x.bytes + n, entries := x.entries + 1 } := by unfold PSeg.took; rw [if_pos hk]
  have c0 := hb.cell h0
  have c1 := hb.cell h1
  have c2 := hb.cell h2
  have c3 := hb.cell h3
  have hglt := hb.lt
  obtain ⟨ad, k, cap, rfl, hkl⟩ : ∃ ad k cap, mv = .slice ad k cap ∧ k = x.marks.length := by
    rcases Joins.ownsRow_forms hm with ⟨e, e2⟩ | ⟨g, cap, e⟩
    · exact ⟨none, 0, 0, e, e2.symm⟩
    · exact ⟨_, _, cap, e, rfl⟩
  rw [← hkl] at hm hs
  have HTOOK := hid htook
  have HK := hid hk
  have HP := hid hp
  have HNUM := hid (And.intro hb0 (And.intro hb1 (And.intro hn0 (And.intro he0 he1))))
  have HM := hid hm
  have HB := hid hb
  have HH0 := hid h0
  have HH1 := hid h1
  have HH2 := hid h2
  have HH3 := hid h3
  have HKL := hid hkl
  have HMG : Hid ((Value.slice ad k cap).ownBlock ≠ some g) := by
    refine hid ?_
    intro e
    obtain ⟨c, fz, hc⟩ := Lib.ownsRow_kind HM.out g e
    have hb2 := HB.out
    unfold Blk at hb2
    rw [hb2] at hc
    cases hc
  clear hp hm hb h0 h1 h2 h3 hk hb0 hb1 hn0 he0 he1 htook hkl
  go_enter Tryz.func95, Tryz.ntmps95
  go_upto_region 2 with fail
  go_cut [31] (fun c wx => c = .bool true ∧ ∃ n, wx = (w.alloc (.cells #[.int .i64 b, .int .i64 m, .string tx] 103)).drewN n)
  case first =>
    cases hl : x.marks.getLast? with
    | none =>
      have hkz : k = 0 := by have : x.marks = [] := by simpa using hl
                             rw [HKL.out, this]; rfl
      clear hl
      subst hkz
      go_quiet (fail)
      go_wp2_with fail
      go_meet
      exact ⟨rfl, _, rfl⟩
    | some y =>
      obtain ⟨ms, hms⟩ : ∃ ms, x.marks = ms ++ [y] := by
        rw [List.getLast?_eq_some_iff] at hl; exact hl
      have hlen : k = ms.length + 1 := by rw [HKL.out, hms]; simp
      subst hlen
      obtain ⟨mb, cap', he⟩ := ownsRow_succ HM.out
      injection he with e1 _ e3
      subst e1 e3
      have hpos : w.cell? ⟨mb, ms.length * 3 + 2, none⟩ = some (.int .i64 y.pos) := by
        rw [HM.out.cellAt _ (by omega), hms, markCells_app, List.getElem?_append_right (by rw [markCells_len]; omega), markCells_len]
        simp [markCells]
      have hy := HP.out y (by rw [hms]; simp)
      have hbig : 256 ≤ x.bytes - y.pos := by
        have hk := HK.out
        unfold PSeg.marked at hk; rw [hl] at hk; simpa using hk
      have hnum := HNUM.out
      clear hl hms
      have hd : decide ((ms.length : Int) + 1 = 0) = false := by simp; omega
      have hmblt : mb < w.heap.size := World.block_lt_of_cell? w _ hpos
      have hiw : IntKind.i64.wrap (ms.length : Int) = ms.length := IntWalk.i64_in _ (by omega)
      have hj0 : (0 : Int) ≤ (ms.length : Int) := by omega
      have hj1 : (ms.length : Int) < (ms.length : Int) + 1 := by omega
      have hjw : IntKind.i64.wrap (x.bytes - y.pos) = x.bytes - y.pos := IntWalk.i64_in _ (by omega)
      go_quiet (fail)
      go_wp2_with fail
      go_meet
      exact ⟨rfl, _, rfl⟩
  case rest =>
    obtain ⟨rfl, nq, rfl⟩ := hcut
    go_upto_region 3 with fail
    have HNX : Hid ((((w.alloc (.cells #[.int .i64 b, .int .i64 m, .string tx] 103)).drewN (nq + 1)).alloc (.cells #[.int .i64 b, .int .i64 x.base, .int .i64 x.bytes] 194)).heap[w.heap.size + 1]? = some (.cells #[.int .i64 b, .int .i64 x.base, .int .i64 x.bytes] 194)) := by
      have h := heap_alloc_new ((w.alloc (.cells #[.int .i64 b, .int .i64 m, .string tx] 103)).drewN (nq + 1)) (.cells #[.int .i64 b, .int .i64 x.base, .int .i64 x.bytes] 194)
      have e : ((w.alloc (.cells #[.int .i64 b, .int .i64 m, .string tx] 103)).drewN (nq + 1)).heap.size = w.heap.size + 1 := by simp
      rw [e] at h
      exact hid h
    have HOX : Hid ((((w.alloc (.cells #[.int .i64 b, .int .i64 m, .string tx] 103)).drewN (nq + 1)).alloc (.cells #[.int .i64 b, .int .i64 x.base, .int .i64 x.bytes] 194)).ownsRow 0 194 3 (.slice ad k cap) k (markCells x.marks)) :=
      hid (World.ownsRow.alloc (show ((w.alloc (.cells #[.int .i64 b, .int .i64 m, .string tx] 103)).drewN (nq + 1)).ownsRow 0 194 3 _ _ _ from HM.out.alloc _) _)
    have HBX : Hid (Blk (((w.alloc (.cells #[.int .i64 b, .int .i64 m, .string tx] 103)).drewN (nq + 1)).alloc (.cells #[.int .i64 b, .int .i64 x.base, .int .i64 x.bytes] 194)) g cs 147) := hid (((HB.out.alloc _).drewN _).alloc _)
    go_cut [2] (fun c wx => c = .int .i64 n ∧ ∃ gg cap2 w3, wx = w3.setCell ⟨g, o + 3, none⟩ (.slice (some ⟨gg, 0, none⟩) (k + 1) cap2) ∧ w3.ownsRow 0 194 3 (.slice (some ⟨gg, 0, none⟩) (k + 1) cap2) (k + 1) (markCells x.marks ++ [.int .i64 b, .int .i64 x.base, .int .i64 x.bytes]) ∧
      (((w.alloc (.cells #[.int .i64 b, .int .i64 m, .string tx] 103)).drewN (nq + 1)).alloc (.cells #[.int .i64 b, .int .i64 x.base, .int .i64 x.bytes] 194)).grownBy w3 (Value.slice ad k cap).ownBlock ∧ ((Value.slice ad k cap).ownBlock = some gg ∨ gg = w.heap.size + 2))
    case first =>
      go_region_law ((refine step_append_lies _ (by rfl) _ _ _ (by rfl) 0 194 i0 _ 3 24 Tryz.underlying145 hi hz0 hz1 hz2 rfl (by omega) (.slice ad k cap) k _ (by rfl) HOX.out ⟨w.heap.size + 1, 0, none⟩ 1 1 [.int .i64 b, .int .i64 x.base, .int .i64 x.bytes] (by rfl) (by rfl) (World.news_of_block (cs := #[.int .i64 b, .int .i64 x.base, .int .i64 x.bytes]) (t := 194) (fr := (0, 0)) HNX.out) (by simp [Value.oneCell']) (by omega) (by unfold maxLen; omega) (by omega) (Nat.zero_le _) (w.heap.size + 2) (by simp) ?_; intro gg cap2 w3 hown3 hgrow hat hlt3; have hB3 := hid (HBX.out.grown hgrow HMG.out); have d3 := hB3.out.cell HH3.out; have k3 := hB3.out.free (o + 3); have HO3 := hid hown3; have HG3 := hid hgrow; have HA3 := hid hat; clear hown3 hgrow hat))
      all_goals (go_wp2_with fail; go_meet; exact ⟨rfl, _, _, _, rfl, HO3.out, HG3.out, HA3.out⟩)
    case rest =>
      obtain ⟨rfl, gg, cap2, w3, rfl, hown3, hgrow, hat⟩ := hcut
      have hB3 := HBX.out.grown hgrow HMG.out
      have hB4 := hB3.set (o + 3) (.slice (some ⟨gg, 0, none⟩) (k + 1) cap2)
      obtain ⟨cs1, hcs1⟩ : ∃ cs1, cs1 = cs.setIfInBounds (o + 3) (.slice (some ⟨gg, 0, none⟩) (k + 1) cap2) := ⟨_, rfl⟩
      rw [← hcs1] at hB4
      have e1 : cs1[o + 1]? = some (.int .i64 x.bytes) := by rw [hcs1, Array.getElem?_setIfInBounds_ne (by omega)]; exact HH1.out
      have e2 : cs1[o + 2]? = some (.int .i64 x.entries) := by rw [hcs1, Array.getElem?_setIfInBounds_ne (by omega)]; exact HH2.out
      have d1 := hB4.cell e1
      have d2 := hB4.cell e2
      have k1 := hB4.free (o + 1)
      have k2 := hB4.free (o + 2)
      have hnum := HNUM.out
      obtain ⟨W, hW⟩ : ∃ W, w3.setCell ⟨g, o + 3, none⟩ (.slice (some ⟨gg, 0, none⟩) (k + 1) cap2) = W := ⟨_, rfl⟩
      rw [hW] at hB4 d1 d2 k1 k2 ⊢
      have hB5 := hB4.set (o + 1) (.int .i64 (x.bytes + n))
      have d3 := hB5.cell (i := o + 2) (v := .int .i64 x.entries) (by rw [Array.getElem?_setIfInBounds_ne (by omega)]; exact e2)
      have k3 := hB5.free (o + 2)
      have hB6 := hB5.set (o + 2) (.int .i64 (x.entries + 1))
      have HB6 := hid hB6
      have HW := hid hW
      have HO3 := hid hown3
      have HG3 := hid hgrow
      have HAT := hid hat
      have HC1 := hid hcs1
      clear hB3 hB4 hB5 hB6 hW hown3 hgrow hat hcs1 e1 e2
      go_wp2_with fail
      have hf1 : Fr (fun j => j = g ∨ (Value.slice ad k cap).ownBlock = some j) w w3 := by
        have ha : Fr (fun j => j = g ∨ (Value.slice ad k cap).ownBlock = some j) w ((w.alloc (.cells #[.int .i64 b, .int .i64 m, .string tx] 103)).drewN (nq + 1)) := ((Fr.refl _ w).alloc _).drewN _
        have hb' := ha.alloc (.cells #[.int .i64 b, .int .i64 x.base, .int .i64 x.bytes] 194)
        have hg := HG3.out
        exact ⟨hg.os.trans hb'.os, hg.tape.trans hb'.tape, hg.output.trans hb'.output, Nat.le_trans hb'.size hg.size, fun j hj hn => (hg.block j (Nat.lt_of_lt_of_le hj hb'.size) (fun e => hn (.inr e.symm))).trans (hb'.block j hj hn)⟩
      have hf2 : Fr (fun j => j = g ∨ (Value.slice ad k cap).ownBlock = some j) w ((W.setCell ⟨g, o + 1, none⟩ (.int .i64 (x.bytes + n))).setCell ⟨g, o + 2, none⟩ (.int .i64 (x.entries + 1))) := by
        rw [← HW.out]
        exact Fr.setCell (p := ⟨g, o + 2, none⟩) (Fr.setCell (p := ⟨g, o + 1, none⟩) (Fr.setCell (p := ⟨g, o + 3, none⟩) hf1 (.inl (.inl rfl)) _) (.inl (.inl rfl)) _) (.inl (.inl rfl)) _
      refine ⟨rfl, .tuple #[], by simp [results, Tryz.results95, go_sem], .slice (some ⟨gg, 0, none⟩) (k + 1) cap2, rfl, ?_, ?_, ?_, hf2⟩
      · have h := HB6.out
        rw [HC1.out] at h
        rw [HTOOK.out]
        exact h
      · rw [HTOOK.out]
        have hg : ¬ ((Value.slice (some ⟨gg, 0, none⟩) (k + 1) cap2).ownBlock = some g) := by
          intro e
          obtain ⟨c, fz, hc⟩ := Lib.ownsRow_kind HO3.out g e
          have hb2 := HBX.out.grown HG3.out HMG.out
          unfold Blk at hb2
          rw [hb2] at hc
          cases hc
        have hfx : Fr (fun j => j = g) w3 ((W.setCell ⟨g, o + 1, none⟩ (.int .i64 (x.bytes + n))).setCell ⟨g, o + 2, none⟩ (.int .i64 (x.entries + 1))) := by
          rw [← HW.out]
          exact Fr.setCell (S := fun j => j = g) (p := ⟨g, o + 2, none⟩) (Fr.setCell (S := fun j => j = g) (p := ⟨g, o + 1, none⟩) (Fr.setCell (S := fun j => j = g) (p := ⟨g, o + 3, none⟩) (Fr.refl _ _) (.inl rfl) _) (.inl rfl) _) (.inl rfl) _
        have hl : (x.marks ++ [(⟨b, x.base, x.bytes⟩ : PMark)]).length = k + 1 := by rw [List.length_append, ← HKL.out]; rfl
        have hc : markCells (x.marks ++ [(⟨b, x.base, x.bytes⟩ : PMark)]) = markCells x.marks ++ [.int .i64 b, .int .i64 x.base, .int .i64 x.bytes] := by rw [markCells_app]; rfl
        rw [hl, hc]
        refine ⟨HO3.out.1, ?_⟩
        rcases HO3.out.2 with h2 | ⟨g2, cap3, cur, hv, hg2, hh, r⟩
        · exact .inl h2
        · refine .inr ⟨g2, cap3, cur, hv, hg2, (hfx.block g2 (Array.getElem?_eq_some_iff.1 hh).1 (fun e => hg ?_)).trans hh, r⟩
          rw [hv, e]; rfl
      · rcases HAT.out with h | h
        · exact .inl h.symm
        · exact .inr ⟨gg, rfl, by omega⟩

set_option maxHeartbeats 8000000 in
theorem took_plain (g o : Nat) (cs : Array Value) (x : PSeg) (mv : Value) (b m n : Int) (tx : ByteArray) (w : World) (hb : Blk w g cs 147)
    (h0 : cs[o]? = some (.int .i64 x.base)) (h1 : cs[o + 1]? = some (.int .i64 x.bytes)) (h2 : cs[o + 2]? = some (.int .i64 x.entries)) (h3 : cs[o + 3]? = some mv)
    (hm : w.ownsRow 0 194 3 mv x.marks.length (markCells x.marks)) (hk : x.marked = false) (hs : x.marks.length ≤ 1048576) (hb0 : 0 ≤ x.bytes) (hb1 : x.bytes + n ≤ 1099511627776) (hn0 : 0 ≤ n) (he0 : 0 ≤ x.entries) (he1 : x.entries ≤ 1099511627776)
    (hp : ∀ y ∈ x.marks, 0 ≤ y.pos ∧ y.pos ≤ 1099511627776) :
    Calls Tryz.prog 95 #[.pointer (some ⟨g, o, none⟩), .agg #[.int .i64 b, .int .i64 m, .string tx], .int .i64 n] w (TookPost g o cs mv (x.took b n) w) := by
  have htook : x.took b n = { x with bytes := x.bytes + n, entries := x.entries + 1 } := by unfold PSeg.took; simp [hk]
  have c0 := hb.cell h0
  have c1 := hb.cell h1
  have c2 := hb.cell h2
  have c3 := hb.cell h3
  have hglt := hb.lt
  obtain ⟨ad, k, cap, rfl, hkl⟩ : ∃ ad k cap, mv = .slice ad k cap ∧ k = x.marks.length := by
    rcases Joins.ownsRow_forms hm with ⟨e, e2⟩ | ⟨g, cap, e⟩
    · exact ⟨none, 0, 0, e, e2.symm⟩
    · exact ⟨_, _, cap, e, rfl⟩
  rw [← hkl] at hm hs
  have HTOOK := hid htook
  have HK := hid hk
  have HP := hid hp
  have HNUM := hid (And.intro hb0 (And.intro hb1 (And.intro hn0 (And.intro he0 he1))))
  have HM := hid hm
  have HB := hid hb
  have HH0 := hid h0
  have HH1 := hid h1
  have HH2 := hid h2
  have HH3 := hid h3
  have HKL := hid hkl
  have HMG : Hid ((Value.slice ad k cap).ownBlock ≠ some g) := by
    refine hid ?_
    intro e
    obtain ⟨c, fz, hc⟩ := Lib.ownsRow_kind HM.out g e
    have hb2 := HB.out
    unfold Blk at hb2
    rw [hb2] at hc
    cases hc
  clear hp hm hb h0 h1 h2 h3 hk hb0 hb1 hn0 he0 he1 htook hkl
  go_enter Tryz.func95, Tryz.ntmps95
  go_upto_region 2 with fail
  go_cut [31] (fun c wx => c = .bool false ∧ ∃ n, wx = (w.alloc (.cells #[.int .i64 b, .int .i64 m, .string tx] 103)).drewN n)
  case first =>
    cases hl : x.marks.getLast? with
    | none =>
      exfalso
      have hk := HK.out
      unfold PSeg.marked at hk
      rw [hl] at hk
      cases hk
    | some y =>
      obtain ⟨ms, hms⟩ : ∃ ms, x.marks = ms ++ [y] := by
        rw [List.getLast?_eq_some_iff] at hl; exact hl
      have hlen : k = ms.length + 1 := by rw [HKL.out, hms]; simp
      subst hlen
      obtain ⟨mb, cap', he⟩ := ownsRow_succ HM.out
      injection he with e1 _ e3
      subst e1 e3
      have hpos : w.cell? ⟨mb, ms.length * 3 + 2, none⟩ = some (.int .i64 y.pos) := by
        rw [HM.out.cellAt _ (by omega), hms, markCells_app, List.getElem?_append_right (by rw [markCells_len]; omega), markCells_len]
        simp [markCells]
      have hy := HP.out y (by rw [hms]; simp)
      have hbig : ¬ 256 ≤ x.bytes - y.pos := by
        have hk := HK.out
        unfold PSeg.marked at hk; rw [hl] at hk; simpa using hk
      have hnum := HNUM.out
      clear hl hms
      have hd : decide ((ms.length : Int) + 1 = 0) = false := by simp; omega
      have hmblt : mb < w.heap.size := World.block_lt_of_cell? w _ hpos
      have hiw : IntKind.i64.wrap (ms.length : Int) = ms.length := IntWalk.i64_in _ (by omega)
      have hj0 : (0 : Int) ≤ (ms.length : Int) := by omega
      have hj1 : (ms.length : Int) < (ms.length : Int) + 1 := by omega
      have hjw : IntKind.i64.wrap (x.bytes - y.pos) = x.bytes - y.pos := IntWalk.i64_in _ (by omega)
      go_quiet (fail)
      go_wp2_with fail
      go_meet
      exact ⟨rfl, _, rfl⟩
  case rest =>
    obtain ⟨rfl, nq, rfl⟩ := hcut
    have hB4 : Blk ((w.alloc (.cells #[.int .i64 b, .int .i64 m, .string tx] 103)).drewN nq) g cs 147 := (HB.out.alloc _).drewN _
    have d1 := hB4.cell HH1.out
    have d2 := hB4.cell HH2.out
    have k1 := hB4.free (o + 1)
    have k2 := hB4.free (o + 2)
    have hnum := HNUM.out
    obtain ⟨W, hW⟩ : ∃ W, (w.alloc (.cells #[.int .i64 b, .int .i64 m, .string tx] 103)).drewN nq = W := ⟨_, rfl⟩
    rw [hW] at hB4 d1 d2 k1 k2 ⊢
    have hB5 := hB4.set (o + 1) (.int .i64 (x.bytes + n))
    have d3 := hB5.cell (i := o + 2) (v := .int .i64 x.entries) (by rw [Array.getElem?_setIfInBounds_ne (by omega)]; exact HH2.out)
    have k3 := hB5.free (o + 2)
    have HB6 := hid (hB5.set (o + 2) (.int .i64 (x.entries + 1)))
    have HW := hid hW
    clear hB4 hB5 hW
    go_wp2_with fail
    have hf1 : Fr (fun j => j = g) w W := by rw [← HW.out]; exact ((Fr.refl _ w).alloc _).drewN _
    have hf2 : Fr (fun j => j = g) w ((W.setCell ⟨g, o + 1, none⟩ (.int .i64 (x.bytes + n))).setCell ⟨g, o + 2, none⟩ (.int .i64 (x.entries + 1))) :=
      Fr.setCell (S := fun j => j = g) (p := ⟨g, o + 2, none⟩) (Fr.setCell (S := fun j => j = g) (p := ⟨g, o + 1, none⟩) hf1 (.inl rfl) _) (.inl rfl) _
    have hset : cs.setIfInBounds (o + 3) (.slice ad k cap) = cs := by
      apply Array.ext_getElem?
      intro i
      by_cases e : o + 3 = i
      · subst e
        rw [Array.getElem?_setIfInBounds_self_of_lt (Array.getElem?_eq_some_iff.1 HH3.out).1]; exact HH3.out.symm
      · rw [Array.getElem?_setIfInBounds_ne e]
    refine ⟨rfl, .tuple #[], by simp [results, Tryz.results95, go_sem], .slice ad k cap, rfl, ?_, ?_, .inl rfl, hf2.mono (fun _ _ h => .inl h)⟩
    · rw [HTOOK.out]
      unfold segSet
      rw [hset]
      exact HB6.out
    · rw [HTOOK.out, ← HKL.out]
      refine ⟨HM.out.1, ?_⟩
      rcases HM.out.2 with h2 | ⟨g2, cap3, cur, hv, hg2, hh, r⟩
      · exact .inl h2
      · refine .inr ⟨g2, cap3, cur, hv, hg2, (hf2.block g2 (Array.getElem?_eq_some_iff.1 hh).1 (fun e => HMG.out ?_)).trans hh, r⟩
        rw [hv, e]; rfl

/-- **took.** -/
theorem took_any (g o : Nat) (cs : Array Value) (x : PSeg) (mv : Value) (b m n : Int) (tx : ByteArray) (w : World) (hb : Blk w g cs 147)
    (h0 : cs[o]? = some (.int .i64 x.base)) (h1 : cs[o + 1]? = some (.int .i64 x.bytes)) (h2 : cs[o + 2]? = some (.int .i64 x.entries)) (h3 : cs[o + 3]? = some mv)
    (hm : w.ownsRow 0 194 3 mv x.marks.length (markCells x.marks)) (hs : x.marks.length ≤ 1048576) (hb0 : 0 ≤ x.bytes) (hb1 : x.bytes + n ≤ 1099511627776) (hn0 : 0 ≤ n) (he0 : 0 ≤ x.entries) (he1 : x.entries ≤ 1099511627776)
    (hp : ∀ y ∈ x.marks, 0 ≤ y.pos ∧ y.pos ≤ 1099511627776) :
    Calls Tryz.prog 95 #[.pointer (some ⟨g, o, none⟩), .agg #[.int .i64 b, .int .i64 m, .string tx], .int .i64 n] w (TookPost g o cs mv (x.took b n) w) := by
  cases hk : x.marked with
  | true => exact took_mark g o cs x mv b m n tx w hb h0 h1 h2 h3 hm hk hs hb0 hb1 hn0 he0 he1 hp
  | false => exact took_plain g o cs x mv b m n tx w hb h0 h1 h2 h3 hm hk hs hb0 hb1 hn0 he0 he1 hp

end Go.Proofs.YtgjkjkeeblbjlaaGreatDoor

namespace Go.Proofs.YtgjkjkeeblbjlaaGreatDoor
open Go.RowKit

structure PItem where
  n : Int
  text : List UInt8

def itemCells (l : List PItem) : List Value := l.flatMap fun x => [.int .i64 x.n, .string (bs x.text)]

theorem itemCells_at : ∀ (l : List PItem) (i : Nat) (x : PItem), l[i]? = some x → (itemCells l)[i * 2]? = some (.int .i64 x.n) ∧ (itemCells l)[i * 2 + 1]? = some (.string (bs x.text))
  | [], i, x, h => by simp at h
  | y :: l, 0, x, h => by
    simp only [List.getElem?_cons_zero, Option.some.injEq] at h
    subst h
    exact ⟨rfl, rfl⟩
  | y :: l, i + 1, x, h => by
    simp only [List.getElem?_cons_succ] at h
    obtain ⟨h1, h2⟩ := itemCells_at l i x h
    have e1 : (i + 1) * 2 = i * 2 + 2 := by omega
    rw [e1]
    exact ⟨h1, h2⟩

/-- The entries that items become: the error, the entries, the offset behind them. -/
def layAll : Int → List PItem → List Ent → Int × List Ent × Int
  | next, [], acc => (0, acc, next)
  | next, x :: r, acc => if (Ent.mk next x.n x.text).ok then (if 1099511627776 - next < x.n then (6, [], 0) else layAll (next + x.n) r (acc ++ [⟨next, x.n, x.text⟩])) else (1, [], 0)

theorem Tryz.infoStr : (Tryz.prog.info? 9).map (fun i => (i.zero, i.size, i.bytes)) = some (some (.string ⟨#[]⟩), 1, 16) := by kernel_rfl

def layCells (l : List Ent) : List Value := l.map fun e => .string (bs e.lay)

theorem rows_apart {w : World} {b1 b2 : Nat} {e1 e2 : TypeId} {s1 s2 : Nat} {v1 v2 : Value} {n1 n2 : Nat} {x1 x2 : List Value} (h1 : w.ownsRow b1 e1 s1 v1 n1 x1) (h2 : w.ownsRow b2 e2 s2 v2 n2 x2) (hne : e1 ≠ e2) : v1.ownBlock = none ∨ v1.ownBlock ≠ v2.ownBlock := by
  cases hv : v1.ownBlock with
  | none => exact .inl rfl
  | some b =>
    refine .inr fun e => ?_
    obtain ⟨c, fz, hc⟩ := Lib.ownsRow_kind h1 b hv
    obtain ⟨c', fz', hc'⟩ := Lib.ownsRow_kind h2 b e.symm
    rw [hc] at hc'
    simp only [Option.some.injEq, Obj.cells.injEq] at hc'
    exact hne hc'.2.1

/-- Between two rounds of Append's first loop. -/
def AppRel (B : Nat) (w : World) (next : Int) (its : List PItem) (c ve vt nx : Value) (wr : World) : Prop :=
  ∃ (k : Nat) (acc : List Ent) (n : Int) (v1 v2 : Value), k ≤ its.length ∧ c = .int .i64 k ∧ v1 = ve ∧ v2 = vt ∧ nx = .int .i64 n ∧ acc.length = k ∧ layAll next its [] = layAll n (its.drop k) acc ∧ (∀ e ∈ acc, e.ok) ∧ 0 ≤ n ∧ n ≤ 1099511627776 ∧
    wr.ownsRow B 103 3 v1 k (entCells acc) ∧ wr.ownsRow B 9 1 v2 k (layCells acc) ∧ Below B w wr

/-- A segment's notes of entries. -/
def PSeg.tookAll (x : PSeg) (l : List Ent) : PSeg := l.foldl (fun x e => x.took e.base e.lay.length) x
def layText (l : List Ent) : List UInt8 := l.flatMap Ent.lay

def headBase : List Ent → Int
  | [] => 0
  | e :: _ => e.base

/-- The entries are put: into the segment x, or into a new one. -/
def PLog.put (L : PLog) (D : PDisk) (x : PSeg) (before : List PSeg) (ents : List Ent) (nx : Int) : PLog × PDisk × Int × Int :=
  let r := D.append (segName L.name x.base) (layText ents)
  if r.2 = 5 then (L, r.1, 0, 5) else if r.2 ≠ 0 then ({ L with e := r.2 }, r.1, 0, r.2)
  else ({ L with e := 0, segs := before ++ [x.tookAll ents], next := nx }, r.1, headBase ents, 0)

def PLog.appendE (L : PLog) (D : PDisk) (ents : List Ent) (nx : Int) : PLog × PDisk × Int × Int :=
  match L.act with
  | some x => L.put D x L.segs.dropLast ents nx
  | none =>
    if L.segs = [] then L.put D ⟨L.next, 0, 0, []⟩ [] ents nx
    else
      let r := L.sync D
      if r.2.2 ≠ 0 then (r.1, r.2.1, 0, r.2.2) else r.1.put r.2.1 ⟨L.next, 0, 0, []⟩ L.segs ents nx

def PLog.append (L : PLog) (D : PDisk) (its : List PItem) : PLog × PDisk × Int × Int :=
  if its = [] then (L, D, 0, 1) else if L.e ≠ 0 then (L, D, 0, L.e)
  else if (layAll L.next its []).1 ≠ 0 then (L, D, 0, (layAll L.next its []).1)
  else L.appendE D (layAll L.next its []).2.1 (layAll L.next its []).2.2

/-- What Append leaves. -/
def AppPost (w : World) (l d : Nat) (S SD : Nat → Prop) (r : PLog × PDisk × Int × Int) (e : Ending) (w' : World) : Prop :=
  e = .returned (.tuple #[.int .i64 r.2.2.1, .int .i64 r.2.2.2]) ∧ LogTo w w' l d S SD r.1 r.2.1

theorem PLog.append_err {L : PLog} {D : PDisk} {its : List PItem} (hne : its ≠ []) (he : L.e = 0) (h : (layAll L.next its []).1 ≠ 0) : L.append D its = (L, D, 0, (layAll L.next its []).1) := by
  unfold PLog.append; rw [if_neg hne, if_neg (by rw [he]; decide), if_pos h]
theorem PLog.append_ok {L : PLog} {D : PDisk} {its : List PItem} {ents : List Ent} {nx : Int} (hne : its ≠ []) (he : L.e = 0) (h : layAll L.next its [] = (0, ents, nx)) : L.append D its = L.appendE D ents nx := by
  unfold PLog.append; rw [if_neg hne, if_neg (by rw [he]; decide), h, if_neg (fun h => h rfl)]

theorem layText_len (acc : List Ent) (hok : ∀ e ∈ acc, e.ok) : (layText acc).length ≤ acc.length * 65636 := by
  induction acc with
  | nil => simp [layText]
  | cons e l ih =>
    have h1 := Ent.lay_len e (hok e (by simp))
    have h2 := ih (fun x hx => hok x (by simp [hx]))
    unfold layText at *
    rw [List.flatMap_cons, List.length_append, List.length_cons]
    omega

theorem tookAll_snoc (x : PSeg) (l : List Ent) (e : Ent) : x.tookAll (l ++ [e]) = (x.tookAll l).took e.base e.lay.length := by
  unfold PSeg.tookAll; rw [List.foldl_append]; rfl

theorem took_marks (x : PSeg) (b n : Int) : (x.took b n).marks.length ≤ x.marks.length + 1 ∧ ∀ y ∈ (x.took b n).marks, y ∈ x.marks ∨ y.pos = x.bytes := by
  unfold PSeg.took
  simp only
  split
  · refine ⟨by simp, fun y hy => ?_⟩
    rcases List.mem_append.1 hy with h | h
    · exact .inl h
    · simp at h; rw [h]; exact .inr rfl
  · exact ⟨by omega, fun y hy => .inl hy⟩

theorem snoc_ind {α : Type} {M : List α → Prop} (h0 : M []) (hs : ∀ l e, M l → M (l ++ [e])) (l : List α) : M l := by
  have h : ∀ r : List α, M r.reverse := by
    intro r
    induction r with
    | nil => exact h0
    | cons e r ih => rw [List.reverse_cons]; exact hs _ _ ih
  simpa using h l.reverse

/-- The numbers of a segment, whatever entries it takes. -/
theorem tookAll_num (x : PSeg) (l : List Ent) (hok : ∀ e ∈ l, e.ok) (h0 : 0 ≤ x.bytes) (hp : ∀ y ∈ x.marks, 0 ≤ y.pos ∧ y.pos ≤ x.bytes) :
    (x.tookAll l).base = x.base ∧ x.bytes ≤ (x.tookAll l).bytes ∧ (x.tookAll l).bytes ≤ x.bytes + l.length * 65636 ∧ (x.tookAll l).entries = x.entries + l.length ∧ (x.tookAll l).marks.length ≤ x.marks.length + l.length ∧
      ∀ y ∈ (x.tookAll l).marks, 0 ≤ y.pos ∧ y.pos ≤ (x.tookAll l).bytes := by
  induction l using snoc_ind with
  | h0 => exact ⟨rfl, Int.le_refl _, by simp [PSeg.tookAll], by simp [PSeg.tookAll], by simp [PSeg.tookAll], hp⟩
  | hs l e ih =>
    obtain ⟨h1, h2, h3, h4, h5, h6⟩ := ih (fun y hy => hok y (by simp [hy]))
    have hl := Ent.lay_len e (hok e (by simp))
    rw [tookAll_snoc]
    obtain ⟨m1, m2⟩ := took_marks (x.tookAll l) e.base e.lay.length
    have hb : ((x.tookAll l).took e.base e.lay.length).bytes = (x.tookAll l).bytes + e.lay.length := rfl
    have he : ((x.tookAll l).took e.base e.lay.length).entries = (x.tookAll l).entries + 1 := rfl
    refine ⟨h1, by rw [hb]; omega, ?_, ?_, ?_, fun y hy => ?_⟩
    · rw [hb]; simp only [List.length_append, List.length_singleton]; omega
    · rw [he, h4]; simp only [List.length_append, List.length_singleton]; omega
    · simp only [List.length_append, List.length_singleton]; omega
    · rw [hb]
      rcases m2 y hy with h | h
      · have := h6 y h; omega
      · rw [h]; omega

end Go.Proofs.YtgjkjkeeblbjlaaGreatDoor

namespace Go.Proofs.YtgjkjkeeblbjlaaGreatDoor
open Go.RowKit

structure ASeg where
  base : Int
  ents : List Ent

structure ALog where
  name : List UInt8
  segs : List ASeg
  sure : Int
  e : Int

def endOf (b : Int) (l : List Ent) : Int := match l.getLast? with | none => b | some e => e.base + e.n
def ASeg.next (s : ASeg) : Int := endOf s.base s.ents
def ASeg.size (s : ASeg) : Nat := (layText s.ents).length
def ASeg.seg (s : ASeg) : PSeg := (PSeg.mk s.base 0 0 []).tookAll s.ents
def ALog.first (A : ALog) : Int := match A.segs with | [] => 0 | s :: _ => s.base
def ALog.next (A : ALog) : Int := match A.segs.getLast? with | none => 0 | some s => s.next
def ALog.toP (A : ALog) : PLog := ⟨A.name, A.segs.map ASeg.seg, A.first, A.next, A.sure, A.e⟩
def ALog.all (A : ALog) : List Ent := A.segs.flatMap ASeg.ents

theorem layText_nil : layText [] = [] := rfl
theorem layText_app (a b : List Ent) : layText (a ++ b) = layText a ++ layText b := by unfold layText; rw [List.flatMap_append]
theorem layText_one (e : Ent) : layText [e] = e.lay := by unfold layText; simp
theorem layText_cons (e : Ent) (l : List Ent) : layText (e :: l) = e.lay ++ layText l := by unfold layText; simp
theorem tookAll_app (x : PSeg) (a b : List Ent) : x.tookAll (a ++ b) = (x.tookAll a).tookAll b := by unfold PSeg.tookAll; rw [List.foldl_append]
theorem tookAll_base (x : PSeg) (l : List Ent) : (x.tookAll l).base = x.base := by
  induction l generalizing x with
  | nil => rfl
  | cons e l ih => exact ih (x.took e.base e.lay.length)
theorem tookAll_bytes (x : PSeg) (l : List Ent) : (x.tookAll l).bytes = x.bytes + (layText l).length := by
  induction l generalizing x with
  | nil => simp [PSeg.tookAll, layText]
  | cons e l ih =>
    have h := ih (x.took e.base e.lay.length)
    have h2 : (x.took e.base e.lay.length).bytes = x.bytes + e.lay.length := rfl
    rw [layText_cons, List.length_append]
    show ((x.took e.base e.lay.length).tookAll l).bytes = _
    rw [h, h2]; omega
theorem tookAll_entries (x : PSeg) (l : List Ent) : (x.tookAll l).entries = x.entries + l.length := by
  induction l generalizing x with
  | nil => simp [PSeg.tookAll]
  | cons e l ih =>
    have h := ih (x.took e.base e.lay.length)
    have h2 : (x.took e.base e.lay.length).entries = x.entries + 1 := rfl
    show ((x.took e.base e.lay.length).tookAll l).entries = _
    rw [h, h2, List.length_cons]; omega
theorem seg_base (s : ASeg) : s.seg.base = s.base := tookAll_base _ _
theorem seg_bytes (s : ASeg) : s.seg.bytes = s.size := by unfold ASeg.seg; rw [tookAll_bytes]; simp [ASeg.size]
theorem seg_entries (s : ASeg) : s.seg.entries = s.ents.length := by unfold ASeg.seg; rw [tookAll_entries]; simp

/-- Entries that follow each other. -/
def Chain : Int → List Ent → Prop
  | _, [] => True
  | b, e :: r => e.base = b ∧ e.ok ∧ Chain (b + e.n) r

theorem endOf_nil (b : Int) : endOf b [] = b := rfl
theorem endOf_cons (b : Int) (e : Ent) (l : List Ent) (h : e.base = b) : endOf b (e :: l) = endOf (b + e.n) l := by
  unfold endOf
  cases l with
  | nil => simp; omega
  | cons y l =>
    rw [List.getLast?_cons_cons]
    cases hg : (y :: l).getLast? with
    | none => simp at hg
    | some z => rfl
theorem endOf_app (b : Int) (l m : List Ent) : endOf b (l ++ m) = endOf (endOf b l) m := by
  unfold endOf
  rw [List.getLast?_append]
  cases m.getLast? <;> cases l.getLast? <;> rfl

theorem Chain.app {b : Int} {l m : List Ent} : Chain b (l ++ m) ↔ Chain b l ∧ Chain (endOf b l) m := by
  induction l generalizing b with
  | nil => simp [Chain, endOf_nil]
  | cons e l ih =>
    simp only [List.cons_append, Chain]
    constructor
    · rintro ⟨h1, h2, h3⟩
      obtain ⟨h4, h5⟩ := ih.1 h3
      exact ⟨⟨h1, h2, h4⟩, by rw [endOf_cons b e l h1]; exact h5⟩
    · rintro ⟨⟨h1, h2, h3⟩, h4⟩
      rw [endOf_cons b e l h1] at h4
      exact ⟨h1, h2, ih.2 ⟨h3, h4⟩⟩

theorem Chain.ok {b : Int} {l : List Ent} (h : Chain b l) : ∀ e ∈ l, e.ok := by
  induction l generalizing b with
  | nil => intro e he; cases he
  | cons x l ih =>
    intro e he
    rcases List.mem_cons.1 he with rfl | he
    · exact h.2.1
    · exact ih h.2.2 e he

theorem Chain.le {b : Int} {l : List Ent} (h : Chain b l) : b ≤ endOf b l := by
  induction l generalizing b with
  | nil => exact Int.le_refl _
  | cons x l ih =>
    rw [endOf_cons b x l h.1]
    have := ih h.2.2
    obtain ⟨_, _, h3, _⟩ := h.2.1
    omega

theorem Chain.lt {b : Int} {l : List Ent} (h : Chain b l) (hne : l ≠ []) : b < endOf b l := by
  cases l with
  | nil => exact absurd rfl hne
  | cons x l =>
    rw [endOf_cons b x l h.1]
    have := h.2.2.le
    obtain ⟨_, _, h3, _⟩ := h.2.1
    omega

/-- What items become. -/
def mkEnts : Int → List PItem → List Ent
  | _, [] => []
  | b, x :: r => ⟨b, x.n, x.text⟩ :: mkEnts (b + x.n) r

theorem mkEnts_len (b : Int) (l : List PItem) : (mkEnts b l).length = l.length := by
  induction l generalizing b with
  | nil => rfl
  | cons x l ih => simp [mkEnts, ih]

theorem layAll_ok (its : List PItem) : ∀ (next : Int) (acc ents : List Ent) (nx : Int), layAll next its acc = (0, ents, nx) →
    ents = acc ++ mkEnts next its ∧ nx = endOf next (mkEnts next its) ∧ Chain next (mkEnts next its) ∧ (next ≤ 1099511627776 → nx ≤ 1099511627776) := by
  induction its with
  | nil =>
    intro next acc ents nx h
    simp only [layAll, Prod.mk.injEq, true_and] at h
    obtain ⟨rfl, rfl⟩ := h
    exact ⟨by simp [mkEnts], rfl, trivial, id⟩
  | cons x l ih =>
    intro next acc ents nx h
    rw [layAll] at h
    split at h
    · rename_i hok
      split at h
      · simp at h
      · rename_i hmax
        obtain ⟨h1, h2, h3, h4⟩ := ih _ _ _ _ h
        refine ⟨by rw [h1]; simp [mkEnts], ?_, ⟨rfl, hok, h3⟩, fun _ => h4 (by omega)⟩
        rw [mkEnts, endOf_cons next _ _ rfl]; exact h2
    · simp at h

theorem layAll_err (its : List PItem) : ∀ (next : Int) (acc : List Ent), (layAll next its acc).1 = 0 ∨ (layAll next its acc).1 = 1 ∨ (layAll next its acc).1 = 6 := by
  induction its with
  | nil => intro next acc; exact .inl rfl
  | cons x l ih =>
    intro next acc
    rw [layAll]
    split
    · split
      · exact .inr (.inr rfl)
      · exact ih _ _
    · exact .inr (.inl rfl)

def ALog.sync (A : ALog) (D : PDisk) : ALog × PDisk × Int :=
  match A.segs.getLast? with
  | none => (A, D, A.e)
  | some s => if A.e ≠ 0 then (A, D, A.e) else
    let r := D.sync (segName A.name s.base)
    ({ A with e := r.2, sure := if r.2 = 0 then A.next else A.sure }, r.1, r.2)

def ALog.put (A : ALog) (D : PDisk) (s : ASeg) (before : List ASeg) (ents : List Ent) : ALog × PDisk × Int × Int :=
  let r := D.append (segName A.name s.base) (layText ents)
  if r.2 = 5 then (A, r.1, 0, 5) else if r.2 ≠ 0 then ({ A with e := r.2 }, r.1, 0, r.2)
  else ({ A with e := 0, segs := before ++ [⟨s.base, s.ents ++ ents⟩] }, r.1, headBase ents, 0)

def ALog.act (A : ALog) : Option ASeg := match A.segs.getLast? with | none => none | some s => if s.size < 1024 then some s else none

def ALog.appendE (A : ALog) (D : PDisk) (ents : List Ent) : ALog × PDisk × Int × Int :=
  match A.act with
  | some s => A.put D s A.segs.dropLast ents
  | none =>
    if A.segs = [] then A.put D ⟨A.next, []⟩ [] ents
    else
      let r := A.sync D
      if r.2.2 ≠ 0 then (r.1, r.2.1, 0, r.2.2) else r.1.put r.2.1 ⟨A.next, []⟩ A.segs ents

def ALog.append (A : ALog) (D : PDisk) (its : List PItem) : ALog × PDisk × Int × Int :=
  if its = [] then (A, D, 0, 1) else if A.e ≠ 0 then (A, D, 0, A.e)
  else if (layAll A.next its []).1 ≠ 0 then (A, D, 0, (layAll A.next its []).1)
  else A.appendE D (layAll A.next its []).2.1

theorem toP_last (A : ALog) : A.toP.segs.getLast? = A.segs.getLast?.map ASeg.seg := by simp [ALog.toP]

theorem toP_sync (A : ALog) (D : PDisk) : A.toP.sync D = ((A.sync D).1.toP, (A.sync D).2.1, (A.sync D).2.2) := by
  unfold PLog.sync ALog.sync
  rw [toP_last]
  cases h : A.segs.getLast? with
  | none => rfl
  | some s =>
    simp only [Option.map_some]
    have e1 : A.toP.e = A.e := rfl
    rw [e1, seg_base]
    by_cases he : A.e = 0
    · have hn : ¬ A.e ≠ 0 := fun h => h he
      rw [if_neg hn, if_neg hn]; rfl
    · rw [if_pos he, if_pos he]

theorem toP_act (A : ALog) : A.toP.act = A.act.map ASeg.seg := by
  unfold PLog.act ALog.act
  rw [toP_last]
  cases h : A.segs.getLast? with
  | none => rfl
  | some s =>
    simp only [Option.map_some]
    rw [seg_bytes]
    by_cases hs : s.size < 1024
    · rw [if_pos hs, if_pos (by omega)]; rfl
    · rw [if_neg hs, if_neg (by omega)]; rfl

theorem toP_put {A : ALog} (D : PDisk) {s : ASeg} {before : List ASeg} {ents : List Ent} {nx : Int} (hf : before ≠ [] → before.head?.map ASeg.base = some A.first) (hf2 : before = [] → s.base = A.first) (hx : nx = endOf s.next ents) :
    A.toP.put D s.seg (before.map ASeg.seg) ents nx = ((A.put D s before ents).1.toP, (A.put D s before ents).2.1, (A.put D s before ents).2.2) := by
  unfold PLog.put ALog.put
  have e1 : A.toP.name = A.name := rfl
  rw [e1, seg_base]
  simp only
  split
  · rfl
  · split
    · rfl
    · refine Prod.ext ?_ rfl
      unfold ALog.toP
      simp only [PLog.mk.injEq, true_and, List.map_append, List.map_cons, List.map_nil]
      refine ⟨?_, ?_, ?_, trivial⟩
      · congr 1
        simp only [List.cons.injEq, and_true]
        unfold ASeg.seg
        rw [tookAll_app]
      · cases before with
        | nil => simp [ALog.first, hf2 rfl]
        | cons y l => have := hf (by simp); simp [ALog.first] at this ⊢; exact this.symm
      · rw [hx]
        simp [ALog.next, ASeg.next, endOf_app]

theorem last_split {α : Type} {l : List α} {x : α} (h : l.getLast? = some x) : ∃ a, l = a ++ [x] := by
  rw [List.getLast?_eq_some_iff] at h; exact h

theorem ALog.act_some {A : ALog} {s : ASeg} (h : A.act = some s) : ∃ a, A.segs = a ++ [s] ∧ s.size < 1024 := by
  unfold ALog.act at h
  cases hg : A.segs.getLast? with
  | none => rw [hg] at h; cases h
  | some y =>
    rw [hg] at h
    simp only at h
    split at h
    · cases h
      obtain ⟨a, ha⟩ := last_split hg
      exact ⟨a, ha, by assumption⟩
    · cases h

theorem ALog.act_none {A : ALog} (h : A.act = none) : A.segs = [] ∨ ∃ a s, A.segs = a ++ [s] ∧ 1024 ≤ s.size := by
  unfold ALog.act at h
  cases hg : A.segs.getLast? with
  | none => exact .inl (by simpa using hg)
  | some y =>
    rw [hg] at h
    simp only at h
    split at h
    · cases h
    · obtain ⟨a, ha⟩ := last_split hg
      exact .inr ⟨a, y, ha, by omega⟩

theorem first_snoc (a : List ASeg) (s s' : ASeg) (h : s'.base = s.base) (A A' : ALog) (h1 : A.segs = a ++ [s]) (h2 : A'.segs = a ++ [s']) : A'.first = A.first := by
  unfold ALog.first
  rw [h1, h2]
  cases a with
  | nil => exact h
  | cons y l => rfl

theorem toP_appendE (A : ALog) (D : PDisk) {ents : List Ent} {nx : Int} (hx : nx = endOf A.next ents) :
    A.toP.appendE D ents nx = ((A.appendE D ents).1.toP, (A.appendE D ents).2.1, (A.appendE D ents).2.2) := by
  unfold PLog.appendE ALog.appendE
  rw [toP_act]
  cases h : A.act with
  | some s =>
    simp only [Option.map_some]
    obtain ⟨a, ha, hs⟩ := A.act_some h
    have e1 : A.toP.segs.dropLast = A.segs.dropLast.map ASeg.seg := by simp [ALog.toP, List.map_dropLast]
    rw [e1]
    refine toP_put D ?_ ?_ ?_
    · intro hne
      rw [ha, List.dropLast_concat] at hne ⊢
      unfold ALog.first
      rw [ha]
      cases a with
      | nil => exact absurd rfl hne
      | cons y l => rfl
    · intro hz
      rw [ha, List.dropLast_concat] at hz
      unfold ALog.first
      rw [ha, hz]; rfl
    · rw [hx]
      unfold ALog.next
      rw [ha]; simp
  | none =>
    simp only [Option.map_none]
    by_cases hz : A.segs = []
    · have hz2 : A.toP.segs = [] := by simp [ALog.toP, hz]
      rw [if_pos hz, if_pos hz2]
      have hn : A.toP.next = A.next := rfl
      rw [hn]
      refine toP_put D (s := ⟨A.next, []⟩) (before := []) (by simp) ?_ ?_
      · intro _; simp [ALog.next, ALog.first, hz]
      · rw [hx]; rfl
    · have hz2 : ¬ A.toP.segs = [] := by simpa [ALog.toP] using hz
      rw [if_neg hz, if_neg hz2]
      rw [toP_sync]
      simp only
      split
      · rfl
      · have hseg : (A.sync D).1.segs = A.segs ∧ (A.sync D).1.next = A.next := by
          unfold ALog.sync
          split
          · exact ⟨rfl, rfl⟩
          · split <;> exact ⟨rfl, rfl⟩
        have e3 : (A.toP.next) = A.next := rfl
        have e4 : A.toP.segs = A.segs.map ASeg.seg := rfl
        rw [e3, e4]
        refine toP_put _ (s := ⟨A.next, []⟩) ?_ ?_ ?_
        · intro _
          unfold ALog.first
          rw [hseg.1]
          cases hs : A.segs with
          | nil => exact absurd hs hz
          | cons y l => rfl
        · intro h; exact absurd h hz
        · rw [hx]; rfl

theorem toP_append (A : ALog) (D : PDisk) (its : List PItem) : A.toP.append D its = ((A.append D its).1.toP, (A.append D its).2.1, (A.append D its).2.2) := by
  unfold PLog.append ALog.append
  have e1 : A.toP.e = A.e := rfl
  have e2 : A.toP.next = A.next := rfl
  rw [e1, e2]
  split
  · rfl
  · split
    · rfl
    · split
      · rfl
      · rename_i h
        have h0 : (layAll A.next its []).1 = 0 := Classical.not_not.1 h
        generalize hl : layAll A.next its [] = r at *
        obtain ⟨r1, ents, nx⟩ := r
        simp only at h0
        subst h0
        obtain ⟨h1, h2, h3, h4⟩ := layAll_ok its A.next [] ents nx hl
        refine toP_appendE A D ?_
        rw [h2, h1]; simp

end Go.Proofs.YtgjkjkeeblbjlaaGreatDoor

namespace Go.Proofs.YtgjkjkeeblbjlaaGreatDoor
open Go.RowKit

def isDigit (c : UInt8) : Bool := decide (48 ≤ c.toNat ∧ c.toNat ≤ 57)
def numL (l : List UInt8) : Int := l.foldl (fun n c => 10 * n + ((c.toNat : Int) - 48)) 0

theorem numL_snoc (l : List UInt8) (c : UInt8) : numL (l ++ [c]) = 10 * numL l + ((c.toNat : Int) - 48) := by
  unfold numL; rw [List.foldl_append]; rfl

theorem digit_of (b : Int) : ((UInt8.ofNat (48 + b % 10).toNat).toNat : Int) = 48 + b % 10 := by
  rw [u8_small (by omega)]; omega

theorem digs_digit (k : Nat) : ∀ b, ∀ c ∈ digs k b, isDigit c = true := by
  induction k with
  | zero => intro b c hc; cases hc
  | succ k ih =>
    intro b c hc
    rw [digs] at hc
    rcases List.mem_append.1 hc with h | h
    · exact ih _ _ h
    · simp only [List.mem_singleton] at h
      subst h
      unfold isDigit
      rw [u8_small (by omega)]
      simp; omega

theorem numL_digs (k : Nat) : ∀ b : Int, 0 ≤ b → b < 10 ^ k → numL (digs k b) = b := by
  induction k with
  | zero => intro b h0 h1; simp at h1; have : b = 0 := by omega
            subst this; rfl
  | succ k ih =>
    intro b h0 h1
    have hp : (10 : Int) ^ (k + 1) = 10 * 10 ^ k := by rw [Int.pow_succ]; omega
    rw [digs, numL_snoc, ih (b / 10) (by omega) (by omega), digit_of]
    omega

theorem digs_numL (s : List UInt8) : s.all isDigit = true → digs s.length (numL s) = s ∧ 0 ≤ numL s := by
  induction s using snoc_ind with
  | h0 => intro _; exact ⟨rfl, by unfold numL; simp⟩
  | hs l c ih =>
    intro h
    rw [List.all_append] at h
    simp only [List.all_cons, List.all_nil, Bool.and_true, Bool.and_eq_true] at h
    obtain ⟨h1, h2⟩ := ih h.1
    have hc := h.2
    unfold isDigit at hc
    simp only [decide_eq_true_eq] at hc
    rw [numL_snoc, List.length_append, List.length_singleton, digs]
    have e1 : (10 * numL l + ((c.toNat : Int) - 48)) / 10 = numL l := by omega
    have e2 : (10 * numL l + ((c.toNat : Int) - 48)) % 10 = (c.toNat : Int) - 48 := by omega
    rw [e1, e2, h1]
    refine ⟨?_, by omega⟩
    congr 1
    simp only [List.cons.injEq, and_true]
    have e3 : (48 + ((c.toNat : Int) - 48)).toNat = c.toNat := by omega
    rw [e3]; simp

theorem lt_app {x y : List UInt8} (s t : List UInt8) (h : x < y) (hl : x.length = y.length) : x ++ s < y ++ t := by
  induction x generalizing y with
  | nil =>
    cases y with
    | nil => exact absurd h (List.lt_irrefl _)
    | cons b y => simp at hl
  | cons a x ih =>
    cases y with
    | nil => simp at hl
    | cons b y =>
      rw [List.cons_lt_cons_iff] at h
      rw [List.cons_append, List.cons_append, List.cons_lt_cons_iff]
      rcases h with h | ⟨h1, h2⟩
      · exact .inl h
      · exact .inr ⟨h1, ih h2 (by simpa using hl)⟩

theorem app_lt (x : List UInt8) {s t : List UInt8} (h : s < t) : x ++ s < x ++ t := by
  induction x with
  | nil => exact h
  | cons a x ih => rw [List.cons_append, List.cons_append, List.cons_lt_cons_iff]; exact .inr ⟨rfl, ih⟩

theorem digs_lt (k : Nat) : ∀ a b : Int, 0 ≤ a → a < b → b < 10 ^ k → digs k a < digs k b := by
  induction k with
  | zero => intro a b h0 h1 h2; simp at h2; omega
  | succ k ih =>
    intro a b h0 h1 h2
    have hp : (10 : Int) ^ (k + 1) = 10 * 10 ^ k := by rw [Int.pow_succ]; omega
    rw [digs, digs]
    by_cases h : a / 10 < b / 10
    · exact lt_app _ _ (ih _ _ (by omega) h (by omega)) (by rw [digs_len, digs_len])
    · have e : a / 10 = b / 10 := by omega
      rw [e]
      refine app_lt _ ?_
      rw [List.cons_lt_cons_iff]
      left
      rw [UInt8.lt_iff_toNat_lt]
      have := digit_of a
      have := digit_of b
      omega

theorem segName_lt (name : List UInt8) {a b : Int} (h0 : 0 ≤ a) (h1 : a < b) (h2 : b ≤ 1099511627776) : segName name a < segName name b := by
  unfold segName
  refine app_lt _ ?_
  rw [List.cons_lt_cons_iff]
  exact .inr ⟨rfl, digs_lt 13 a b h0 h1 (by omega)⟩

theorem segName_inj (name : List UInt8) {a b : Int} (h0 : 0 ≤ a) (h1 : a ≤ 1099511627776) (h2 : 0 ≤ b) (h3 : b ≤ 1099511627776) (h : segName name a = segName name b) : a = b := by
  have h : digs 13 a = digs 13 b := by
    unfold segName at h
    simpa using h
  have e1 := numL_digs 13 a h0 (by omega)
  have e2 := numL_digs 13 b h2 (by omega)
  rw [← e1, h, e2]

/-- The offset in a segment's name. -/
def segBase (name f : List UInt8) : Option Int :=
  if (name ++ [46]) <+: f ∧ (f.drop (name.length + 1)).length = 13 ∧ (f.drop (name.length + 1)).all isDigit = true ∧ numL (f.drop (name.length + 1)) ≤ 1099511627776 then some (numL (f.drop (name.length + 1))) else none

theorem segBase_name (name : List UInt8) {b : Int} (h0 : 0 ≤ b) (h1 : b ≤ 1099511627776) : segBase name (segName name b) = some b := by
  have hd : (segName name b).drop (name.length + 1) = digs 13 b := by
    unfold segName
    rw [← List.drop_drop, List.drop_left]; rfl
  unfold segBase
  rw [hd, numL_digs 13 b h0 (by omega), if_pos]
  refine ⟨⟨digs 13 b, by unfold segName; simp⟩, digs_len 13 b, ?_, h1⟩
  rw [List.all_eq_true]
  exact digs_digit 13 b

theorem segBase_some {name f : List UInt8} {b : Int} (h : segBase name f = some b) : f = segName name b ∧ 0 ≤ b ∧ b ≤ 1099511627776 := by
  unfold segBase at h
  split at h
  · rename_i hc
    obtain ⟨⟨t, ht⟩, h2, h3, h4⟩ := hc
    simp only [Option.some.injEq] at h
    subst h
    have hd : f.drop (name.length + 1) = t := by
      rw [← ht, show name.length + 1 = (name ++ [46]).length from by simp, List.drop_left]
    rw [hd] at h2 h3 h4 ⊢
    obtain ⟨h5, h6⟩ := digs_numL t h3
    rw [h2] at h5
    refine ⟨?_, h6, h4⟩
    unfold segName
    rw [h5, ← ht]; simp
  · cases h

/-- Is it a segment of that log? -/
def own (name : List UInt8) (f : PFile) : Bool := (segBase name f.name).isSome

theorem own_iff {name : List UInt8} {f : PFile} : own name f = true ↔ ∃ b, f.name = segName name b ∧ 0 ≤ b ∧ b ≤ 1099511627776 := by
  unfold own
  constructor
  · intro h
    obtain ⟨b, hb⟩ := Option.isSome_iff_exists.1 h
    exact ⟨b, segBase_some hb⟩
  · rintro ⟨b, h, h0, h1⟩
    rw [h, segBase_name name h0 h1]; rfl

theorem putF_filter_other {name : List UInt8} {l : List PFile} {f : PFile} (hf : own name f = false) : (putF l f).filter (own name) = l.filter (own name) := by
  induction l with
  | nil => simp [putF, hf]
  | cons g l ih =>
    rw [putF]
    split
    · rename_i e
      have : own name g = false := by unfold own at hf ⊢; rw [e]; exact hf
      rw [List.filter_cons, List.filter_cons, hf, this]; rfl
    · split
      · rw [List.filter_cons, List.filter_cons, ih]
      · rw [List.filter_cons, hf]; rfl

theorem putF_filter {name : List UInt8} {l : List PFile} (h : Sorted l) {f : PFile} (hf : own name f = true) : (putF l f).filter (own name) = putF (l.filter (own name)) f := by
  induction l with
  | nil => simp [putF, hf]
  | cons g l ih =>
    have hc := List.pairwise_cons.1 h
    have key : ∀ m : List PFile, (∀ x ∈ m, f.name < x.name) → putF m f = f :: m := by
      intro m hm
      cases m with
      | nil => rfl
      | cons y m =>
        have := hm y (by simp)
        rw [putF, if_neg (fun e => by rw [e] at this; exact List.lt_irrefl _ this), if_neg (fun e => List.lt_irrefl _ (List.lt_trans e this))]
    rw [putF]
    split
    · rename_i e
      have hg : own name g = true := by unfold own at hf ⊢; rw [e]; exact hf
      rw [List.filter_cons, List.filter_cons, if_pos hf, if_pos hg, putF, if_pos e]
    · rename_i e
      split
      · rename_i e2
        rw [List.filter_cons, List.filter_cons, ih hc.2]
        split
        · rw [putF, if_neg e, if_pos e2]
        · rfl
      · rename_i e2
        have hlt := lt_tri e e2
        rw [List.filter_cons, if_pos hf]
        rw [key]
        intro x hx
        rcases List.mem_cons.1 (List.mem_filter.1 hx).1 with rfl | hx
        · exact hlt
        · exact List.lt_trans hlt (hc.1 x hx)

theorem putF_last {l : List PFile} {f : PFile} (h : ∀ g ∈ l, g.name < f.name) : putF l f = l ++ [f] := by
  induction l with
  | nil => rfl
  | cons g l ih =>
    have := h g (by simp)
    rw [putF, if_neg (fun e => by rw [e] at this; exact List.lt_irrefl _ this), if_pos this, ih (fun x hx => h x (by simp [hx]))]; rfl

theorem putF_snoc {l : List PFile} {g f : PFile} (h : ∀ x ∈ l, x.name < g.name) (e : f.name = g.name) : putF (l ++ [g]) f = l ++ [f] := by
  induction l with
  | nil => simp [putF, e]
  | cons x l ih =>
    have := h x (by simp)
    rw [List.cons_append, putF, if_neg (fun e2 => by rw [e2, e] at this; exact List.lt_irrefl _ this), if_pos (by rw [e]; exact this), ih (fun y hy => h y (by simp [hy]))]; rfl

end Go.Proofs.YtgjkjkeeblbjlaaGreatDoor

namespace Go.Proofs.YtgjkjkeeblbjlaaGreatDoor
open Go.RowKit

theorem DiskTo.after {w w1 w2 : World} {d : Nat} {S : Nat → Prop} {D' : PDisk} (hb : Below w.heap.size w w1) (h : DiskTo w1 w2 d S D') : DiskTo w w2 d S D' := by
  obtain ⟨S', a, f, s⟩ := h
  have hsz := hb.size
  exact ⟨S', a, (Fr.of_below hb).trans f, fun k hk => (s k hk).imp id (by omega)⟩

theorem join_flat (l : List (List UInt8)) : Lib.join l [] = l.flatten := by
  cases l with
  | nil => rfl
  | cons x r =>
    rw [Lib.join_cons]
    have : Lib.joinTail [] r = r.flatten := by unfold Lib.joinTail; simp
    rw [this]; rfl

theorem join_any {w : World} {B : Nat} {v : Value} (acc : List Ent) (k : Nat) (hk : acc.length = k) (hpos : 0 < k) (row : w.ownsRow B 9 1 v k (layCells acc)) (hok : ∀ e ∈ acc, e.ok) (hc : k ≤ 64) :
    Calls Tryz.prog 94 #[v, .string ⟨#[]⟩] w fun e w' => e = .returned (.string (bs (layText acc))) ∧ Below w.heap.size w w' := by
  obtain ⟨g, cap, rfl⟩ := Joins.ownsRow_form row hpos
  have hlt := row.lt g rfl
  have hcap : k ≤ cap := by
    rcases row.2 with ⟨h, _⟩ | ⟨g2, cap2, cur, h, _, _, h2, _⟩
    · cases h
    · injection h with _ _ h3; omega
  have hl := layText_len acc hok
  have e1 : ((acc.map fun e => bs e.lay).map (·.data.toList)) = acc.map Ent.lay := by rw [List.map_map]; exact List.map_congr_left fun e _ => tl_bs _
  have hflat : (acc.map Ent.lay).flatten = layText acc := rfl
  have h := Tryz.strings_Join g 0 cap (acc.map fun e => bs e.lay) ⟨#[]⟩ w (by
    intro j x hx
    have hj := (List.getElem?_eq_some_iff.1 hx).1
    rw [List.length_map] at hj
    rw [Nat.zero_add, row.cellAt j (by omega)]
    unfold layCells
    rw [List.getElem?_map] at hx ⊢
    cases he : acc[j]? with
    | none => rw [he] at hx; cases hx
    | some e => rw [he] at hx; simp only [Option.map_some, Option.some.injEq] at hx ⊢; rw [hx]) hlt.2 (by simp; omega) (by simp; omega) (by
      rw [e1]
      show (Lib.join _ []).length ≤ _
      rw [join_flat, hflat]; omega)
  rw [e1] at h
  rw [List.length_map, hk] at h
  have e2 : (Lib.join (acc.map Ent.lay) (⟨#[]⟩ : ByteArray).data.toList) = layText acc := join_flat _
  rw [e2] at h
  exact h

/-- A row of another type lies in no block of a disk. -/
theorem row_disk {w : World} {d : Nat} {SD : Nat → Prop} {D : PDisk} {base : Nat} {e : TypeId} {size : Nat} {v : Value} {n : Nat} {xs : List Value} (h : w.ownsRow base e size v n xs) (hd : DiskAt w d SD D) (h1 : e ≠ 96) (h2 : e ≠ 119) : ∀ k, v.ownBlock = some k → ¬ SD k := by
  intro k hk
  rcases h.2 with ⟨h3, _⟩ | ⟨g, cap, cur, hv, _, hh, _⟩
  · rw [h3] at hk; cases hk
  · rw [hv] at hk
    simp only [Value.ownBlock, Option.some.injEq] at hk
    subst hk
    exact hd.other hh h1 h2

theorem row_log {w : World} {l d : Nat} {S : Nat → Prop} {L : PLog} {base : Nat} {e : TypeId} {size : Nat} {v : Value} {n : Nat} {xs : List Value} (h : w.ownsRow base e size v n xs) (hl : LogAt w l d S L) (h1 : e ≠ 122) (h2 : e ≠ 147) (h3 : e ≠ 194) : ∀ k, v.ownBlock = some k → ¬ S k := by
  intro k hk
  obtain ⟨c, fz, hc⟩ := Lib.ownsRow_kind h k hk
  exact hl.other hc h1 h2 h3

/-- A segment's cells in a block of segments; the other cells are as they were. -/
structure SegAt (w : World) (sg o : Nat) (cs0 : Array Value) (x : PSeg) (mv : Value) (cs : Array Value) : Prop where
  blk : Blk w sg cs 147
  size : cs.size = cs0.size
  off : ∀ j, j < o ∨ o + 4 ≤ j → cs[j]? = cs0[j]?
  c0 : cs[o]? = some (.int .i64 x.base)
  c1 : cs[o + 1]? = some (.int .i64 x.bytes)
  c2 : cs[o + 2]? = some (.int .i64 x.entries)
  c3 : cs[o + 3]? = some mv
  marks : w.ownsRow 0 194 3 mv x.marks.length (markCells x.marks)

theorem SegAt.fr {S : Nat → Prop} {w w' : World} {sg o : Nat} {cs0 cs : Array Value} {x : PSeg} {mv : Value} (h : SegAt w sg o cs0 x mv cs) (hf : Fr S w w') (h1 : ¬ S sg) (h2 : ∀ k, mv.ownBlock = some k → ¬ S k) : SegAt w' sg o cs0 x mv cs :=
  ⟨h.blk.fr hf h1, h.size, h.off, h.c0, h.c1, h.c2, h.c3, row_fr h.marks hf h2⟩

/-- took, at a segment in a block. -/
theorem took_seg {w : World} {sg o : Nat} {cs0 cs : Array Value} {x : PSeg} {mv : Value} (h : SegAt w sg o cs0 x mv cs) (b m n : Int) (tx : ByteArray) (hs : x.marks.length ≤ 1048576) (hb0 : 0 ≤ x.bytes) (hb1 : x.bytes + n ≤ 1099511627776) (hn0 : 0 ≤ n) (he0 : 0 ≤ x.entries) (he1 : x.entries ≤ 1099511627776)
    (hp : ∀ y ∈ x.marks, 0 ≤ y.pos ∧ y.pos ≤ 1099511627776) :
    Calls Tryz.prog 95 #[.pointer (some ⟨sg, o, none⟩), .agg #[.int .i64 b, .int .i64 m, .string tx], .int .i64 n] w fun r w' => r = .returned (.tuple #[]) ∧ ∃ mv' cs', SegAt w' sg o cs0 (x.took b n) mv' cs' ∧
      (mv'.ownBlock = mv.ownBlock ∨ ∃ k, mv'.ownBlock = some k ∧ w.heap.size ≤ k) ∧ Fr (fun k => k = sg ∨ mv.ownBlock = some k) w w' := by
  refine (took_any sg o cs x mv b m n tx w h.blk h.c0 h.c1 h.c2 h.c3 h.marks hs hb0 hb1 hn0 he0 he1 hp).mono ?_
  rintro r w' ⟨mv', hr, hB, hm, hown, hf⟩
  have hlt := (Array.getElem?_eq_some_iff.1 h.c3).1
  refine ⟨hr, mv', _, ⟨hB, ?_, ?_, ?_, ?_, ?_, ?_, hm⟩, hown, hf⟩
  · unfold segSet; simp [h.size]
  · intro j hj
    unfold segSet
    rw [Array.getElem?_setIfInBounds_ne (by omega), Array.getElem?_setIfInBounds_ne (by omega), Array.getElem?_setIfInBounds_ne (by omega)]
    exact h.off j hj
  · unfold segSet
    rw [Array.getElem?_setIfInBounds_ne (by omega), Array.getElem?_setIfInBounds_ne (by omega), Array.getElem?_setIfInBounds_ne (by omega)]
    exact h.c0
  · unfold segSet
    rw [Array.getElem?_setIfInBounds_ne (by omega), Array.getElem?_setIfInBounds_self_of_lt (by simp; omega)]
  · unfold segSet
    rw [Array.getElem?_setIfInBounds_self_of_lt (by simp; omega)]
  · unfold segSet
    rw [Array.getElem?_setIfInBounds_ne (by omega), Array.getElem?_setIfInBounds_ne (by omega), Array.getElem?_setIfInBounds_self_of_lt (by omega)]

/-- Between two rounds of Append's second loop. -/
def TookRel (W0 : World) (sg o : Nat) (cs0 : Array Value) (x : PSeg) (mv0 : Value) (acc : List Ent) (c : Value) (wr : World) : Prop :=
  ∃ (k : Nat) (mv : Value) (cs : Array Value), k ≤ acc.length ∧ c = .int .i64 k ∧ SegAt wr sg o cs0 (x.tookAll (acc.take k)) mv cs ∧ (mv.ownBlock = mv0.ownBlock ∨ ∃ b, mv.ownBlock = some b ∧ W0.heap.size ≤ b) ∧ Fr (fun j => j = sg ∨ mv0.ownBlock = some j) W0 wr

theorem LogTo.disk {w wc wx : World} {l d : Nat} {S SD : Nat → Prop} {L : PLog} {D' : PDisk} (h : LogAt w l d S L) (hb : Below w.heap.size w wc) (hto : DiskTo wc wx d SD D') (hap : ∀ k, S k → ¬ SD k) : LogTo w wx l d S SD L D' := by
  obtain ⟨SD', a, f, s⟩ := hto
  have hsz := hb.size
  exact ⟨S, SD', (h.below hb).fr f hap, a, (Fr.of_below hb).trans (f.mono fun _ _ h => .inr h), fun k hk => .inl hk, fun k hk => (s k hk).imp id (by omega)⟩

theorem LogRep.ms_split {w : World} {l d : Nat} {ms : List Value} {sv : Value} {L : PLog} (h : LogRep w l d ms sv L) {a : List PSeg} {x : PSeg} (hs : L.segs = a ++ [x]) : ∃ ma v, ms = ma ++ [v] ∧ ma.length = a.length := by
  have hl := h.len
  rw [hs, List.length_append, List.length_singleton] at hl
  have hne : ms ≠ [] := by intro e; rw [e] at hl; simp at hl
  refine ⟨ms.dropLast, ms.getLast hne, (List.dropLast_concat_getLast hne).symm, ?_⟩
  rw [List.length_dropLast]; omega

theorem LogRep.segAt {w : World} {l d : Nat} {ma : List Value} {v : Value} {sg n cap : Nat} {L : PLog} (h : LogRep w l d (ma ++ [v]) (.slice (some ⟨sg, 0, none⟩) n cap) L) {a : List PSeg} {x : PSeg} (hs : L.segs = a ++ [x]) (hm : ma.length = a.length) :
    ∃ cs, SegAt w sg (a.length * 4) cs x v cs := by
  rcases h.segs.2 with ⟨h1, _⟩ | ⟨g, cap', cur, hv, _, hh, h1, h2, h3, h4⟩
  · cases h1
  · injection hv with e1 _ e3
    injection e1 with e1
    injection e1 with e1 _
    subst e1 e3
    have hat := segCells_at L.segs (ma ++ [v]) a.length x v (by rw [hs]; simp) (by rw [← hm]; simp)
    have hcur : ∀ j, j < L.segs.length * 4 → cur[j]? = (segCells L.segs (ma ++ [v]))[j]? := by
      intro j hj
      rw [← h4, List.getElem?_take_of_lt hj]
      simp
    have hn : L.segs.length = a.length + 1 := by rw [hs]; simp
    refine ⟨cur, hh, rfl, fun _ _ => rfl, ?_, ?_, ?_, ?_, h.marks a.length x v (by rw [hs]; simp) (by rw [← hm]; simp)⟩
    · have := hat 0; rw [Nat.add_zero] at this; rw [hcur _ (by omega), this]; rfl
    · rw [hcur _ (by omega), hat 1]; rfl
    · rw [hcur _ (by omega), hat 2]; rfl
    · rw [hcur _ (by omega), hat 3]; rfl

/-- A log whose last segment has been noted in. -/
theorem LogRep.retake {w wr : World} {l d : Nat} {ma : List Value} {v mv : Value} {sg n cap : Nat} {L : PLog} (h : LogRep w l d (ma ++ [v]) (.slice (some ⟨sg, 0, none⟩) n cap) L) {a : List PSeg} {x x' : PSeg} (hs : L.segs = a ++ [x]) (hm : ma.length = a.length) {cs0 cs : Array Value}
    (h0 : SegAt w sg (a.length * 4) cs0 x v cs0) (h1 : SegAt wr sg (a.length * 4) cs0 x' mv cs) (hown : mv.ownBlock = v.ownBlock ∨ ∃ b, mv.ownBlock = some b ∧ w.heap.size ≤ b) (hf : Fr (fun j => j = sg ∨ v.ownBlock = some j) w wr) :
    LogRep wr l d (ma ++ [mv]) (.slice (some ⟨sg, 0, none⟩) n cap) { L with segs := a ++ [x'] } := by
  have hn : L.segs.length = a.length + 1 := by rw [hs]; simp
  have hsgS : ∀ b, v.ownBlock = some b → b ≠ sg := by
    rintro b hb rfl
    obtain ⟨c, fz, hc⟩ := Lib.ownsRow_kind h0.marks b hb
    have := h0.blk
    unfold Blk at this
    rw [this] at hc
    cases hc
  have hlS : ¬ (l = sg ∨ v.ownBlock = some l) := by
    rintro (e | e)
    · subst e
      have := h0.blk.inj h.hdr
      exact absurd this.2 (by decide)
    · obtain ⟨c, fz, hc⟩ := Lib.ownsRow_kind h0.marks l e
      have := h.hdr
      unfold Blk at this
      rw [this] at hc
      cases hc
  have hlt : ∀ (i : Nat) (u : Value) (b : Nat), ma[i]? = some u → u.ownBlock = some b → b < w.heap.size ∧ b ≠ sg ∧ v.ownBlock ≠ some b := by
    intro i u b hi hb
    have hia : i < a.length := by have := (List.getElem?_eq_some_iff.1 hi).1; omega
    have hu : (ma ++ [v])[i]? = some u := by rw [List.getElem?_append_left (by omega)]; exact hi
    have hx : L.segs[i]? = some a[i] := by rw [hs, List.getElem?_append_left hia]; exact List.getElem?_eq_getElem hia
    have hr := h.marks i _ u hx hu
    refine ⟨(hr.lt b hb).2, ?_, fun e => ?_⟩
    · rintro rfl
      obtain ⟨c, fz, hc⟩ := Lib.ownsRow_kind hr b hb
      have := h0.blk
      unfold Blk at this
      rw [this] at hc
      cases hc
    · have := h.apart i ma.length u v b hu (by simp) hb e
      omega
  refine ⟨h.hdr.fr hf hlS, by simp [hm], ?_, ?_, ?_⟩
  · rcases h.segs.2 with ⟨h2, _⟩ | ⟨g, cap', cur, hv, hg, hh, k1, k2, k3, k4⟩
    · cases h2
    · injection hv with e1 e2 e3
      injection e1 with e1
      injection e1 with e1 _
      subst e1 e3
      have hcur : cs0 = cur := (h0.blk.inj hh).1
      subst hcur
      have hlen' : (a ++ [x']).length = L.segs.length := by rw [hn]; simp
      refine ⟨by rw [segCells_len _ _ (by simp [hm])], .inr ⟨sg, cap, cs, by rw [hlen', ← e2], hg, h1.blk, by rw [hlen']; exact k1, k2, by rw [h1.size]; exact k3, ?_⟩⟩
      show cs.toList.take ((a ++ [x']).length * 4) = segCells (a ++ [x']) (ma ++ [mv])
      apply List.ext_getElem?
      intro j
      have hold : ∀ j, j < L.segs.length * 4 → cs0[j]? = (segCells L.segs (ma ++ [v]))[j]? := by
        intro j hj
        rw [← k4, List.getElem?_take_of_lt hj]
        simp
      have hl1 : (segCells a ma).length = a.length * 4 := segCells_len a ma hm
      by_cases hj : j < (a ++ [x']).length * 4
      · rw [List.getElem?_take_of_lt hj, Array.getElem?_toList, segCells_app _ _ _ _ hm]
        by_cases hj2 : j < a.length * 4
        · rw [h1.off j (.inl hj2), hold j (by omega), hs, segCells_app _ _ _ _ hm, List.getElem?_append_left (by omega), List.getElem?_append_left (by omega)]
        · rw [List.getElem?_append_right (by omega), hl1]
          simp only [List.length_append, List.length_singleton] at hj
          obtain ⟨q, rfl⟩ : ∃ q, j = a.length * 4 + q := ⟨j - a.length * 4, by omega⟩
          rw [Nat.add_sub_cancel_left]
          have hq : q < 4 := by omega
          match q, hq with
          | 0, _ => exact h1.c0
          | 1, _ => exact h1.c1
          | 2, _ => exact h1.c2
          | 3, _ => exact h1.c3
      · rw [List.getElem?_eq_none (by rw [List.length_take]; omega), List.getElem?_eq_none (by rw [segCells_len _ _ (by simp [hm])]; omega)]
  · intro i y u hy hu
    simp only at hy
    by_cases hi : i < a.length
    · rw [List.getElem?_append_left hi] at hy
      rw [List.getElem?_append_left (by omega)] at hu
      refine row_fr (h.marks i y u (by rw [hs, List.getElem?_append_left hi]; exact hy) (by rw [List.getElem?_append_left (by omega)]; exact hu)) hf ?_
      rintro b hb (e | e)
      · exact (hlt i u b hu hb).2.1 e
      · exact (hlt i u b hu hb).2.2 e
    · have hi2 := (List.getElem?_eq_some_iff.1 hy).1
      simp only [List.length_append, List.length_singleton] at hi2
      have hie : i = a.length := by omega
      subst hie
      rw [List.getElem?_append_right (by omega), Nat.sub_self] at hy
      rw [List.getElem?_append_right (by omega), hm, Nat.sub_self] at hu
      simp only [List.getElem?_cons_zero, Option.some.injEq] at hy hu
      subst hy hu
      exact h1.marks
  · have key : ∀ (i : Nat) (u : Value) (b : Nat), ma[i]? = some u → u.ownBlock = some b → mv.ownBlock ≠ some b := by
      intro i u b hi hb e
      have := hlt i u b hi hb
      rcases hown with h2 | ⟨b2, h2, h3⟩
      · exact this.2.2 (h2 ▸ e)
      · rw [h2] at e
        injection e with e
        omega
    intro i j u1 u2 b hi hj hb1 hb2
    by_cases hi1 : i < ma.length
    · rw [List.getElem?_append_left hi1] at hi
      by_cases hj1 : j < ma.length
      · rw [List.getElem?_append_left hj1] at hj
        exact h.apart i j u1 u2 b (by rw [List.getElem?_append_left hi1]; exact hi) (by rw [List.getElem?_append_left hj1]; exact hj) hb1 hb2
      · rw [List.getElem?_append_right (by omega)] at hj
        have hj2 := (List.getElem?_eq_some_iff.1 hj).1
        simp only [List.length_singleton] at hj2
        have : j - ma.length = 0 := by omega
        rw [this] at hj
        simp only [List.getElem?_cons_zero, Option.some.injEq] at hj
        subst hj
        exact absurd hb2 (key i u1 b hi hb1)
    · rw [List.getElem?_append_right (by omega)] at hi
      have hi2 := (List.getElem?_eq_some_iff.1 hi).1
      simp only [List.length_singleton] at hi2
      have : i - ma.length = 0 := by omega
      rw [this] at hi
      simp only [List.getElem?_cons_zero, Option.some.injEq] at hi
      subst hi
      by_cases hj1 : j < ma.length
      · rw [List.getElem?_append_left hj1] at hj
        exact absurd hb1 (key j u2 b hj hb2)
      · have hj2 := (List.getElem?_eq_some_iff.1 hj).1
        simp only [List.length_append, List.length_singleton] at hj2
        omega

end Go.Proofs.YtgjkjkeeblbjlaaGreatDoor

namespace Go.Proofs.YtgjkjkeeblbjlaaGreatDoor
open Go.RowKit

/-- A log with one segment more. -/
theorem LogRep.push {w w3 : World} {l d : Nat} {ms : List Value} {sv : Value} {L : PLog} (h : LogRep w l d ms sv L) (hg : w.grownBy w3 sv.ownBlock) {gg cap2 : Nat} {b : Int}
    (hown : w3.ownsRow 0 147 4 (.slice (some ⟨gg, 0, none⟩) (L.segs.length + 1) cap2) (L.segs.length + 1) (segCells L.segs ms ++ [.int .i64 b, .int .i64 0, .int .i64 0, .slice none 0 0])) (hgg : sv.ownBlock = some gg ∨ w.heap.size ≤ gg) :
    LogRep (w3.setCell ⟨l, 2, none⟩ (.slice (some ⟨gg, 0, none⟩) (L.segs.length + 1) cap2)) l d (ms ++ [.slice none 0 0]) (.slice (some ⟨gg, 0, none⟩) (L.segs.length + 1) cap2) { L with segs := L.segs ++ [⟨b, 0, 0, []⟩] } := by
  have hlne : sv.ownBlock ≠ some l := by
    intro e
    obtain ⟨c, fz, hc⟩ := Lib.ownsRow_kind h.segs _ e
    have := h.hdr
    unfold Blk at this
    rw [this] at hc
    cases hc
  have hllt := h.hdr.lt
  have hglne : gg ≠ l := by
    rintro rfl
    rcases hgg with e | e
    · exact hlne e
    · omega
  have hB3 := h.hdr.grown hg hlne
  have hf : Fr (fun k => k = l) w3 (w3.setCell ⟨l, 2, none⟩ (.slice (some ⟨gg, 0, none⟩) (L.segs.length + 1) cap2)) := Fr.setCell (S := fun k => k = l) (p := ⟨l, 2, none⟩) (Fr.refl _ _) (.inl rfl) _
  have hmark : ∀ (i : Nat) (x : PSeg) (v : Value), L.segs[i]? = some x → ms[i]? = some v → ∀ k, v.ownBlock = some k → k ≠ l ∧ sv.ownBlock ≠ some k := by
    intro i x v hx hv k hk
    have hr := h.marks i x v hx hv
    constructor
    · rintro rfl
      obtain ⟨c, fz, hc⟩ := Lib.ownsRow_kind hr _ hk
      have := h.hdr
      unfold Blk at this
      rw [this] at hc
      cases hc
    · intro e
      obtain ⟨c, fz, hc⟩ := Lib.ownsRow_kind hr _ hk
      obtain ⟨c', fz', hc'⟩ := Lib.ownsRow_kind h.segs _ e
      rw [hc] at hc'
      cases hc'
  refine ⟨hB3.set 2 _, by simp [h.len], ?_, ?_, ?_⟩
  · have h1 := row_fr hown hf (fun k hk e => by
      simp only [Value.ownBlock, Option.some.injEq] at hk
      exact hglne (hk.trans e))
    have hl : (L.segs ++ [(⟨b, 0, 0, []⟩ : PSeg)]).length = L.segs.length + 1 := by simp
    have hc : segCells (L.segs ++ [(⟨b, 0, 0, []⟩ : PSeg)]) (ms ++ [.slice none 0 0]) = segCells L.segs ms ++ [.int .i64 b, .int .i64 0, .int .i64 0, .slice none 0 0] := by
      rw [segCells_app _ _ _ _ h.len]; rfl
    show World.ownsRow _ 0 _ 4 _ (L.segs ++ [(⟨b, 0, 0, []⟩ : PSeg)]).length (segCells (L.segs ++ [(⟨b, 0, 0, []⟩ : PSeg)]) _)
    rw [hl, hc]
    exact h1
  · intro i x v hx hv
    have hx : (L.segs ++ [(⟨b, 0, 0, []⟩ : PSeg)])[i]? = some x := hx
    by_cases hi : i < L.segs.length
    · rw [List.getElem?_append_left hi] at hx
      rw [List.getElem?_append_left (by rw [h.len]; exact hi)] at hv
      have hr := h.marks i x v hx hv
      have h3 : w3.ownsRow 0 194 3 v x.marks.length (markCells x.marks) := by
        refine hr.kept hg ?_
        cases hvb : v.ownBlock with
        | none => exact .inl rfl
        | some k => exact .inr (fun e => (hmark i x v hx hv k hvb).2 e.symm)
      exact row_fr h3 hf (fun k hk e => (hmark i x v hx hv k hk).1 e)
    · have hlen : i < (L.segs ++ [(⟨b, 0, 0, []⟩ : PSeg)]).length := (List.getElem?_eq_some_iff.1 hx).1
      have hi2 : i = L.segs.length := by simp at hlen; omega
      subst hi2
      rw [List.getElem?_append_right (Nat.le_refl _), Nat.sub_self] at hx
      rw [← h.len, List.getElem?_append_right (Nat.le_refl _), Nat.sub_self] at hv
      simp only [List.getElem?_cons_zero, Option.some.injEq] at hx hv
      subst hx hv
      exact World.ownsRow_nil _ _ _ _
  · intro i j a c k hi hj ha hc
    have key : ∀ (i : Nat) (a : Value), (ms ++ [Value.slice none 0 0])[i]? = some a → a.ownBlock = some k → ms[i]? = some a := by
      intro i a hi ha
      by_cases hlt : i < ms.length
      · rwa [List.getElem?_append_left hlt] at hi
      · rw [List.getElem?_append_right (by omega)] at hi
        have : i - ms.length = 0 := by have := (List.getElem?_eq_some_iff.1 hi).1; simp at this; omega
        rw [this] at hi
        simp only [List.getElem?_cons_zero, Option.some.injEq] at hi
        subst hi
        cases ha
    exact h.apart i j a c k (key i a hi ha) (key j c hj hc) ha hc

/-- The segment's block lies where segments lie. -/
def SegBlk (w : World) (b : Nat) : Prop := ∃ c fz, w.heap[b]? = some (.cells c 147 fz)

theorem SegBlk.notDisk {w : World} {b d : Nat} {SD : Nat → Prop} {D : PDisk} (h : SegBlk w b) (hd : DiskAt w d SD D) : ¬ SD b := by
  obtain ⟨c, fz, hc⟩ := h
  obtain ⟨m, fs, hr, hS⟩ := hd
  intro hs
  have key : ∀ T' c', Blk w b c' T' → T' ≠ 147 → False := by
    intro T' c' hb n1
    unfold Blk at hb
    rw [hc] at hb
    simp only [Option.some.injEq, Obj.cells.injEq] at hb
    exact n1 hb.2.1.symm
  rcases (hS b).1 hs with rfl | rfl | hk'
  · exact key _ _ hr.hdr (by decide)
  · obtain ⟨es, ck, hm, _⟩ := hr.map
    rw [hc] at hm
    cases hm
  · obtain ⟨x, hx, rfl⟩ := List.mem_map.1 hk'
    exact key _ _ (hr.blk x hx) (by decide)

/-- Ahead of the writing. -/
structure App2 (w : World) (l d : Nat) (S SD : Nat → Prop) (L : PLog) (D : PDisk) (N : Int) (its : List PItem) (acc : List Ent) (n : Int) (L1 : PLog) (D1 : PDisk) (S1 SD1 : Nat → Prop) (xb xo : Nat) (s : PSeg) (before : List PSeg) (ms : List Value) (sv : Value) (wx : World) : Prop where
  disk : DiskAt wx d SD1 D1
  dwf : D1.WF N
  lwf : L1.WF
  e : L1.e = 0
  fr : Fr (fun k => S k ∨ SD k) w wx
  foot : ∀ k, S1 k → S k ∨ w.heap.size ≤ k
  footD : ∀ k, SD1 k → SD k ∨ w.heap.size ≤ k
  app : L.append D its = L1.put D1 s before acc n
  base : 0 ≤ s.base ∧ s.base ≤ 1099511627776
  cell : wx.cell? ⟨xb, xo, none⟩ = some (.int .i64 s.base)
  blk : SegBlk wx xb
  rep : LogRep wx l d ms sv L1
  footL : ∀ k, S1 k ↔ footL l ms sv k
  way : (∃ cap, sv = .slice (some ⟨xb, 0, none⟩) L1.segs.length cap ∧ L1.segs = before ++ [s] ∧ s.bytes < 1024 ∧ xo = before.length * 4) ∨
    (before = L1.segs ∧ L1.act = none ∧ s = ⟨L1.next, 0, 0, []⟩ ∧ xo = 0 ∧ Blk wx xb #[.int .i64 L1.next, .int .i64 0, .int .i64 0, .slice none 0 0] 147 ∧ ¬ S1 xb)

/-- Between the writing and the notes. -/
structure App4 (w : World) (l d : Nat) (S SD : Nat → Prop) (L : PLog) (D : PDisk) (its : List PItem) (acc : List Ent) (n : Int) (L4 : PLog) (D4 : PDisk) (S4 SD4 : Nat → Prop) (sg cap : Nat) (s : PSeg) (a : List PSeg) (ma : List Value) (v : Value) (wx : World) : Prop where
  disk : DiskAt wx d SD4 D4
  fr : Fr (fun k => S k ∨ SD k) w wx
  foot : ∀ k, S4 k → S k ∨ w.heap.size ≤ k
  footD : ∀ k, SD4 k → SD k ∨ w.heap.size ≤ k
  app : L.append D its = ({ L4 with segs := a ++ [s.tookAll acc], next := n }, D4, headBase acc, 0)
  rep : LogRep wx l d (ma ++ [v]) (.slice (some ⟨sg, 0, none⟩) (a.length + 1) cap) L4
  footL : ∀ k, S4 k ↔ Go.Proofs.YtgjkjkeeblbjlaaGreatDoor.footL l (ma ++ [v]) (.slice (some ⟨sg, 0, none⟩) (a.length + 1) cap) k
  segs : L4.segs = a ++ [s]
  len : ma.length = a.length
  count : a.length ≤ 1000000
  bytes : 0 ≤ s.bytes ∧ s.bytes ≤ 1024
  entries : 0 ≤ s.entries ∧ s.entries ≤ 1000000000
  marks : s.marks.length ≤ 1000000 ∧ ∀ y ∈ s.marks, 0 ≤ y.pos ∧ y.pos ≤ s.bytes

section
variable {w : World} {l d : Nat} {S SD : Nat → Prop} {L : PLog} {D : PDisk} {N : Int} {its : List PItem} {acc : List Ent} {n : Int} {L1 : PLog} {D1 D2 : PDisk} {S1 SD1 : Nat → Prop} {xb xo : Nat} {s : PSeg} {before : List PSeg} {ms : List Value} {sv : Value} {we wx : World}

theorem App2.at (h : App2 w l d S SD L D N its acc n L1 D1 S1 SD1 xb xo s before ms sv we) : LogAt we l d S1 L1 := ⟨ms, sv, h.rep, h.footL⟩

/-- Behind the disk's work. -/
theorem App2.after (h : App2 w l d S SD L D N its acc n L1 D1 S1 SD1 xb xo s before ms sv we) (hto : DiskTo we wx d SD1 D2) :
    ∃ SD2, DiskAt wx d SD2 D2 ∧ LogRep wx l d ms sv L1 ∧ Fr (fun k => S k ∨ SD k) w wx ∧ (∀ k, SD2 k → SD k ∨ w.heap.size ≤ k) ∧ (∀ k, SD2 k → ¬ S1 k) ∧ Fr SD1 we wx := by
  obtain ⟨SD2, hd, hf, hs⟩ := hto
  have hap : ∀ k, S1 k → ¬ SD1 k := fun k hk => LogAt.apart h.at h.disk hk
  have hsz := h.fr.size
  refine ⟨SD2, hd, h.rep.fr hf (fun k hk => hap k ((h.footL k).2 hk)), ⟨hf.os.trans h.fr.os, hf.tape.trans h.fr.tape, hf.output.trans h.fr.output, Nat.le_trans h.fr.size hf.size, fun k hk hn => ?_⟩, fun k hk => ?_, fun k hk hS => ?_, hf⟩
  · refine (hf.block k (by omega) (fun e => ?_)).trans (h.fr.block k hk hn)
    exact (h.footD k e).elim (fun e => hn (.inr e)) (by omega)
  · exact (hs k hk).elim (h.footD k) (fun e => .inr (by omega))
  · rcases hs k hk with e | e
    · exact hap k hS e
    · have := LogAt.lt h.at hS; omega

theorem App2.to (h : App2 w l d S SD L D N its acc n L1 D1 S1 SD1 xb xo s before ms sv we) (hto : DiskTo we wx d SD1 D2) : LogTo w wx l d S SD L1 D2 := by
  obtain ⟨SD2, a1, a2, a3, a4, _, _⟩ := h.after hto
  exact ⟨S1, SD2, ⟨ms, sv, a2, h.footL⟩, a1, a3, h.foot, a4⟩

/-- The error is noted. -/
theorem App2.noted (h : App2 w l d S SD L D N its acc n L1 D1 S1 SD1 xb xo s before ms sv we) (hto : DiskTo we wx d SD1 D2) (e : Int) :
    LogRep (wx.setCell ⟨l, 6, none⟩ (.int .i64 e)) l d ms sv { L1 with e := e } ∧ LogTo w (wx.setCell ⟨l, 6, none⟩ (.int .i64 e)) l d S SD { L1 with e := e } D2 ∧
      ∃ SD2, DiskAt (wx.setCell ⟨l, 6, none⟩ (.int .i64 e)) d SD2 D2 ∧ Fr (fun k => S k ∨ SD k) w (wx.setCell ⟨l, 6, none⟩ (.int .i64 e)) ∧ (∀ k, SD2 k → SD k ∨ w.heap.size ≤ k) ∧ (∀ k, SD2 k → ¬ S1 k) ∧ Fr (fun k => SD1 k ∨ k = l) we (wx.setCell ⟨l, 6, none⟩ (.int .i64 e)) := by
  obtain ⟨SD2, a1, a2, a3, a4, a5, a6⟩ := h.after hto
  have hb4 : Blk (wx.setCell ⟨l, 6, none⟩ (.int .i64 e)) l #[ptr d, .string (bs L1.name), sv, .int .i64 L1.first, .int .i64 L1.next, .int .i64 L1.sure, .int .i64 e] 122 := a2.hdr.set 6 (.int .i64 e)
  have hf4 : Fr (fun k => k = l) wx (wx.setCell ⟨l, 6, none⟩ (.int .i64 e)) := Fr.setCell (S := fun k => k = l) (p := ⟨l, 6, none⟩) (Fr.refl _ _) (.inl rfl) _
  have hS1l : S1 l := (h.footL l).2 (.inl rfl)
  have hr := a2.set hf4 hb4
  have hd : DiskAt (wx.setCell ⟨l, 6, none⟩ (.int .i64 e)) d SD2 D2 := a1.fr hf4 (fun k hk e => a5 k hk (e ▸ hS1l))
  have hf : Fr (fun k => S k ∨ SD k) w (wx.setCell ⟨l, 6, none⟩ (.int .i64 e)) := Fr.setCell (p := ⟨l, 6, none⟩) a3 ((h.foot l hS1l).imp .inl id) _
  refine ⟨hr, ⟨S1, SD2, ⟨ms, sv, hr, h.footL⟩, hd, hf, h.foot, a4⟩, SD2, hd, hf, a4, a5, ?_⟩
  exact Fr.setCell (p := ⟨l, 6, none⟩) (a6.mono fun k _ e => .inl e) (.inl (.inr rfl)) _
end

theorem PLog.act_of {L : PLog} {a : List PSeg} {x : PSeg} (h : L.segs = a ++ [x]) (hx : x.bytes < 1024) : L.act = some x := by
  unfold PLog.act
  rw [h]
  simp [hx]

theorem entCells_at : ∀ (l : List Ent) (i : Nat) (x : Ent), l[i]? = some x → (entCells l)[i * 3]? = some (.int .i64 x.base) ∧ (entCells l)[i * 3 + 1]? = some (.int .i64 x.n) ∧ (entCells l)[i * 3 + 2]? = some (.string (bs x.text))
  | [], i, x, h => by simp at h
  | y :: l, 0, x, h => by
    simp only [List.getElem?_cons_zero, Option.some.injEq] at h
    subst h
    exact ⟨rfl, rfl, rfl⟩
  | y :: l, i + 1, x, h => by
    simp only [List.getElem?_cons_succ] at h
    obtain ⟨h1, h2, h3⟩ := entCells_at l i x h
    have e1 : (i + 1) * 3 = i * 3 + 3 := by omega
    rw [e1]
    exact ⟨h1, h2, h3⟩

end Go.Proofs.YtgjkjkeeblbjlaaGreatDoor
