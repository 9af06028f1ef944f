/-
  Open on whatever disk: what it computes. No conditions.
  seglog: Open on whatever disk: the walk. Conditions: numbers that fit.
-/
import Derived.Test.YtgjkjkeeblbjlaaGreatDoorGFM
import Derived.Test.YtgjkjkeeblbjlaaGreatDoorGEM
import Derived.Test.YtgjkjkeeblbjlaaGreatDoorGKM
set_option maxRecDepth 100000
namespace Go.Proofs.YtgjkjkeeblbjlaaGreatDoor
open Go.RowKit

/-- The first segment's offset is the log's. -/
def PLog.begin (L : PLog) (b : Int) : PLog := if L.segs = [] then { L with first := b, next := b } else L

/-- File by file. -/
def openL (name last : List UInt8) : List PFile → PLog → PDisk → PLog × PDisk × Int
  | [], L, D => (L, D, 0)
  | f :: r, L, D =>
    match segBase name f.name with
    | none => openL name last r L D
    | some b =>
      if (L.begin b).next ≠ b then (L.begin b, D, 2)
      else if ((L.begin b).load b (f.sure ++ f.loose)).2 = f.size then openL name last r ((L.begin b).load b (f.sure ++ f.loose)).1 D
      else if f.name ≠ last then (((L.begin b).load b (f.sure ++ f.loose)).1, D, 2)
      else if (D.truncate f.name ((L.begin b).load b (f.sure ++ f.loose)).2).2 ≠ 0 then (((L.begin b).load b (f.sure ++ f.loose)).1, (D.truncate f.name ((L.begin b).load b (f.sure ++ f.loose)).2).1, (D.truncate f.name ((L.begin b).load b (f.sure ++ f.loose)).2).2)
      else openL name last r ((L.begin b).load b (f.sure ++ f.loose)).1 (D.truncate f.name ((L.begin b).load b (f.sure ++ f.loose)).2).1

def lastOwn (name : List UInt8) (l : List PFile) : List UInt8 := l.foldl (fun a f => if own name f then f.name else a) []

def newLog (name : List UInt8) : PLog := ⟨name, [], 0, 0, 0, 0⟩

def PDisk.openLog (D : PDisk) (name : List UInt8) : PLog × PDisk × Int :=
  if okLog name = false then (newLog name, D, 1) else if D.off = true then (newLog name, D, 4) else
  let r := openL name (lastOwn name D.files) D.files (newLog name) D
  if r.2.2 ≠ 0 then r
  else if lastOwn name D.files = [] then ({ r.1 with sure := r.1.next }, r.2.1, 0)
  else
    let s := r.2.1.sync (lastOwn name D.files)
    if s.2 ≠ 0 then (r.1, s.1, s.2) else ({ r.1 with sure := r.1.next }, s.1, 0)

theorem lastOwn_snoc (name : List UInt8) (l : List PFile) (f : PFile) : lastOwn name (l ++ [f]) = if own name f then f.name else lastOwn name l := by
  unfold lastOwn; rw [List.foldl_append]; rfl

theorem lastOwn_len {name : List UInt8} : ∀ (l : List PFile), (∀ f ∈ l, f.name.length ≤ 24) → (lastOwn name l).length ≤ 24 := by
  intro l
  induction l using snoc_ind with
  | h0 => intro _; simp [lastOwn]
  | hs l f ih =>
    intro h
    rw [lastOwn_snoc]
    split
    · exact h f (by simp)
    · exact ih (fun g hg => h g (by simp [hg]))

theorem PLog.begin_segs (L : PLog) (b : Int) : (L.begin b).segs = L.segs := by unfold PLog.begin; split <;> rfl
theorem PLog.begin_name (L : PLog) (b : Int) : (L.begin b).name = L.name := by unfold PLog.begin; split <;> rfl
theorem PLog.load_name (L : PLog) (b : Int) (s : List UInt8) : (L.load b s).1.name = L.name := rfl
theorem PLog.load_segs (L : PLog) (b : Int) (s : List UInt8) : (L.load b s).1.segs.length = L.segs.length + 1 := by unfold PLog.load; simp

theorem loadL_bytes : ∀ (l : List (Nat × Ent)) (x : PSeg) (next : Int), x.bytes ≤ (loadL x next l).1.bytes ∧ (loadL x next l).1.bytes ≤ x.bytes + rowBytes l
  | [], x, next => by simp [loadL, rowBytes]
  | (n, e) :: r, x, next => by
    rw [loadL]
    have hr : rowBytes ((n, e) :: r) = n + rowBytes r := by simp [rowBytes]
    rw [hr]
    split
    · dsimp only; omega
    · obtain ⟨h1, h2⟩ := loadL_bytes r (x.took e.base n) (next + e.n)
      have h3 : (x.took e.base n).bytes = x.bytes + n := rfl
      omega

theorem PLog.load_good (L : PLog) (b : Int) (s : List UInt8) : 0 ≤ (L.load b s).2 ∧ (L.load b s).2 ≤ s.length := by
  have h1 := loadL_bytes (rowL s) ⟨b, 0, 0, []⟩ L.next
  have h2 := rowBytes_le s _ (Nat.le_refl _)
  show 0 ≤ (loadL ⟨b, 0, 0, []⟩ L.next (rowL s)).1.bytes ∧ (loadL ⟨b, 0, 0, []⟩ L.next (rowL s)).1.bytes ≤ s.length
  have h3 : (PSeg.mk b 0 0 []).bytes = 0 := rfl
  omega

theorem PLog.load_next {L : PLog} (b : Int) (s : List UInt8) (h : 0 ≤ L.next ∧ L.next ≤ 1099511627776) : 0 ≤ (L.load b s).1.next ∧ (L.load b s).1.next ≤ 1099511627776 :=
  loadL_num (rowL s) _ _ (rowL_ok s _ (Nat.le_refl _)) h.1 h.2

/-- What Open leaves. -/
def OpenPost (w : World) (d : Nat) (S : Nat → Prop) (r : PLog × PDisk × Int) (e : Ending) (w' : World) : Prop :=
  (r.2.2 ≠ 0 ∧ e = .returned (.tuple #[.pointer none, .int .i64 r.2.2]) ∧ DiskTo w w' d S r.2.1) ∨
  (r.2.2 = 0 ∧ ∃ (l : Nat) (S' SD' : Nat → Prop), e = .returned (.tuple #[ptr l, .int .i64 0]) ∧ LogAt w' l d S' r.1 ∧ DiskAt w' d SD' r.2.1 ∧ Fr S w w' ∧ (∀ k, S' k → w.heap.size ≤ k) ∧ (∀ k, SD' k → S k ∨ w.heap.size ≤ k))
end Go.Proofs.YtgjkjkeeblbjlaaGreatDoor

namespace Go.Proofs.YtgjkjkeeblbjlaaGreatDoor
open Go.RowKit

theorem fileCells_at : ∀ (l : List PFile) (i : Nat) (x : PFile), l[i]? = some x → (fileCells l)[i * 3]? = some (.string (bs x.name)) ∧ (fileCells l)[i * 3 + 1]? = some (.string (bs x.sure)) ∧ (fileCells l)[i * 3 + 2]? = some (.string (bs x.loose))
  | [], i, x, h => by simp at h
  | y :: l, 0, x, h => by
    simp only [List.getElem?_cons_zero, Option.some.injEq] at h
    subst h
    exact ⟨rfl, rfl, rfl⟩
  | y :: l, i + 1, x, h => by
    simp only [List.getElem?_cons_succ] at h
    obtain ⟨h1, h2, h3⟩ := fileCells_at l i x h
    have e1 : (i + 1) * 3 = i * 3 + 3 := by omega
    rw [e1]
    exact ⟨h1, h2, h3⟩

/-- The log and the disk while Open goes on. -/
structure OpenMid (w : World) (l d : Nat) (S : Nat → Prop) (D : PDisk) (N : Int) (name : List UInt8) (v : Value) (k : Nat) (ms : List Value) (sv : Value) (SD : Nat → Prop) (L : PLog) (E : PDisk) (wr : World) : Prop where
  log : LogRep wr l d ms sv L
  disk : DiskAt wr d SD E
  wf : E.WF N
  s : ∀ i, footL l ms sv i → w.heap.size ≤ i
  sd : ∀ i, SD i → S i ∨ w.heap.size ≤ i
  fr : Fr S w wr
  row : wr.ownsRow w.heap.size 138 3 v D.files.length (fileCells D.files)
  next : 0 ≤ L.next ∧ L.next ≤ 1099511627776
  cnt : L.segs.length ≤ k
  nm : L.name = name

section
variable {w : World} {l d : Nat} {S : Nat → Prop} {D : PDisk} {N : Int} {name : List UInt8} {v : Value} {k : Nat} {ms : List Value} {sv : Value} {SD : Nat → Prop} {L : PLog} {E : PDisk} {wr : World}

theorem OpenMid.at (h : OpenMid w l d S D N name v k ms sv SD L E wr) : LogAt wr l d (footL l ms sv) L := ⟨ms, sv, h.log, fun _ => Iff.rfl⟩

theorem OpenMid.up (h : OpenMid w l d S D N name v k ms sv SD L E wr) : OpenMid w l d S D N name v (k + 1) ms sv SD L E wr :=
  ⟨h.log, h.disk, h.wf, h.s, h.sd, h.fr, h.row, h.next, by have := h.cnt; omega, h.nm⟩

theorem OpenMid.below (h : OpenMid w l d S D N name v k ms sv SD L E wr) {w1 : World} (hb : Below wr.heap.size wr w1) : OpenMid w l d S D N name v k ms sv SD L E w1 :=
  ⟨h.log.fr (Fr.of_below (S := fun _ => False) hb) (fun _ _ h => h), h.disk.below hb, h.wf, h.s, h.sd, h.fr.below hb, own_bel h.row hb, h.next, h.cnt, h.nm⟩

/-- The log's blocks turn. -/
theorem OpenMid.turn (h : OpenMid w l d S D N name v k ms sv SD L E wr) {w1 : World} {ms' : List Value} {sv' : Value} {L' : PLog} {k' : Nat} (hl : LogRep w1 l d ms' sv' L') (hf : Fr (footL l ms sv) wr w1) (hs : ∀ i, footL l ms' sv' i → footL l ms sv i ∨ wr.heap.size ≤ i)
    (hn : 0 ≤ L'.next ∧ L'.next ≤ 1099511627776) (hc : L'.segs.length ≤ k') (hnm : L'.name = name) :
    OpenMid w l d S D N name v k' ms' sv' SD L' E w1 ∧ ∀ {b : Nat} {c : Array Value}, Blk wr b c 138 → Blk w1 b c 138 := by
  have hsz := h.fr.size
  refine ⟨⟨hl, h.disk.fr hf (fun i hi h9 => h.at.apart h.disk h9 hi), h.wf, fun i hi => ?_, h.sd, ?_, row_fr h.row hf (fun i hi h9 => row_log h.row h.at (by decide) (by decide) (by decide) i hi h9), hn, hc, hnm⟩, fun {b c} hb => ?_⟩
  · rcases hs i hi with h9 | h9
    · exact h.s i h9
    · omega
  · exact ⟨hf.os.trans h.fr.os, hf.tape.trans h.fr.tape, hf.output.trans h.fr.output, Nat.le_trans hsz hf.size, fun i hi hn9 => (hf.block i (Nat.lt_of_lt_of_le hi hsz) (fun h9 => by have := h.s i h9; omega)).trans (h.fr.block i hi hn9)⟩
  · refine hb.fr hf (fun h9 => ?_)
    exact h.at.other hb (by decide) (by decide) (by decide) h9

/-- The disk's blocks turn. -/
theorem OpenMid.cut (h : OpenMid w l d S D N name v k ms sv SD L E wr) {w1 : World} {E' : PDisk} (hto : DiskTo wr w1 d SD E') (hw : E'.WF N) : ∃ SD', OpenMid w l d S D N name v k ms sv SD' L E' w1 := by
  obtain ⟨SD', h1, hf, h2⟩ := hto
  have hsz := h.fr.size
  refine ⟨SD', ⟨h.log.fr hf (fun i hi h9 => h.at.apart h.disk hi h9), h1, hw, h.s, fun i hi => ?_, ?_, row_fr h.row hf (fun i hi h9 => row_disk h.row h.disk (by decide) (by decide) i hi h9), h.next, h.cnt, h.nm⟩⟩
  · rcases h2 i hi with h9 | h9
    · exact h.sd i h9
    · exact .inr (by omega)
  · exact ⟨hf.os.trans h.fr.os, hf.tape.trans h.fr.tape, hf.output.trans h.fr.output, Nat.le_trans hsz hf.size, fun i hi hn9 => (hf.block i (Nat.lt_of_lt_of_le hi hsz) (fun h9 => (h.sd i h9).elim hn9 (by omega))).trans (h.fr.block i hi hn9)⟩

theorem OpenMid.done (h : OpenMid w l d S D N name v k ms sv SD L E wr) : ∃ S' SD', LogAt (wr.setCell ⟨l, 5, none⟩ (.int .i64 L.next)) l d S' { L with sure := L.next } ∧ DiskAt (wr.setCell ⟨l, 5, none⟩ (.int .i64 L.next)) d SD' E ∧
    Fr S w (wr.setCell ⟨l, 5, none⟩ (.int .i64 L.next)) ∧ (∀ i, S' i → w.heap.size ≤ i) ∧ (∀ i, SD' i → S i ∨ w.heap.size ≤ i) := by
  have hst : Fr (fun k => k = l) wr (wr.setCell ⟨l, 5, none⟩ (.int .i64 L.next)) := Fr.setCell (S := fun k => k = l) (p := ⟨l, 5, none⟩) (Fr.refl _ _) (.inl rfl) _
  have hlog := h.log.set hst (h.log.hdr.set 5 (.int .i64 L.next))
  obtain ⟨hm, _⟩ := h.turn (k' := k) hlog (hst.mono (by rintro j _ rfl; exact .inl rfl)) (fun j hj => .inl hj) h.next h.cnt h.nm
  exact ⟨_, _, hm.at, hm.disk, hm.fr, hm.s, hm.sd⟩

theorem OpenMid.to (h : OpenMid w l d S D N name v k ms sv SD L E wr) : DiskTo w wr d S E := ⟨SD, h.disk, h.fr, h.sd⟩
end

theorem row_file {w : World} {base : Nat} {v : Value} {l : List PFile} (h : w.ownsRow base 138 3 v l.length (fileCells l)) {k : Nat} {f : PFile} (hf : l[k]? = some f) :
    ∃ g cap, v = .slice (some ⟨g, 0, none⟩) l.length cap ∧ base ≤ g ∧ g < w.heap.size ∧ w.cell? ⟨g, k * 3, none⟩ = some (.string (bs f.name)) ∧ w.cell? ⟨g, k * 3 + 1, none⟩ = some (.string (bs f.sure)) ∧ w.cell? ⟨g, k * 3 + 2, none⟩ = some (.string (bs f.loose)) := by
  obtain ⟨e0, e1, e2⟩ := fileCells_at _ _ _ hf
  have hlt := (List.getElem?_eq_some_iff.1 hf).1
  rcases Joins.ownsRow_forms h with ⟨_, hz⟩ | ⟨g, cap, rfl⟩
  · omega
  · exact ⟨g, cap, rfl, (h.lt g rfl).1, (h.lt g rfl).2, (h.cellAt _ (by omega)).trans e0, (h.cellAt _ (by omega)).trans e1, (h.cellAt _ (by omega)).trans e2⟩

/-- The last own file so far. -/
def LastRel (w2 : World) (name : List UInt8) (D : PDisk) (c v : Value) (wr : World) : Prop :=
  ∃ k : Nat, k ≤ D.files.length ∧ c = .int .i64 k ∧ v = .string (bs (lastOwn name (D.files.take k))) ∧ Below w2.heap.size w2 wr

theorem PDisk.openLog_err {D : PDisk} {name : List UInt8} {r : PLog × PDisk × Int} (h1 : okLog name = true) (h2 : D.off = false) (h : openL name (lastOwn name D.files) D.files (newLog name) D = r) (hr : r.2.2 ≠ 0) : D.openLog name = r := by
  unfold PDisk.openLog
  rw [if_neg (by rw [h1]; decide), if_neg (by rw [h2]; decide)]
  dsimp only
  rw [h, if_pos hr]

set_option maxHeartbeats 8000000 in
theorem open_any {w : World} {d : Nat} {S : Nat → Prop} {D : PDisk} {N : Int} (s : ByteArray) (h : DiskAt w d S D) (hw : D.WF N) (hs2 : s.size ≤ 140737488355328) :
    Calls Tryz.prog 43 #[ptr d, .string s] w (OpenPost w d S (D.openLog (tl s))) := by
  have HD := hid h
  have HW := hid hw
  have HS2 := hid hs2
  have hcount := hw.count
  clear h hw hs2
  unfold ptr
  go_enter Tryz.func43, Tryz.ntmps43
  go_wp2_with fail
  refine (logNamed_any s _ HS2.out).mono ?_
  rintro e w1 ⟨rfl, hb1⟩
  have HB1 := hid hb1
  clear hb1
  cases hok : okLog (tl s) with
  | false =>
    have HO : Hid (D.openLog (tl s) = (newLog (tl s), D, 1)) := hid (by unfold PDisk.openLog; rw [if_pos hok])
    clear hok
    go_wp2_with fail
    go_ret2
    refine .inl ?_
    rw [HO.out]
    exact ⟨(by decide : (1 : Int) ≠ 0), rfl, .of_below HD.out HB1.out⟩
  | true =>
  have hnl : (tl s).length ≤ 8 := by
    unfold okLog at hok
    simp only [Bool.and_eq_true, decide_eq_true_eq] at hok
    exact hok.1.2
  have HOK := hid hok
  clear hok
  go_wp2_with fail
  refine (off_any d S D _ (HD.out.below HB1.out)).mono ?_
  rintro e w2 ⟨rfl, rfl⟩
  cases hoff : D.off with
  | true =>
    have HO : Hid (D.openLog (tl s) = (newLog (tl s), D, 4)) := hid (by unfold PDisk.openLog; rw [if_neg (by rw [HOK.out]; decide), if_pos hoff])
    clear hoff
    go_wp2_with fail
    go_ret2
    refine .inl ?_
    rw [HO.out]
    exact ⟨(by decide : (4 : Int) ≠ 0), rfl, .of_below HD.out HB1.out⟩
  | false =>
  have HOF := hid hoff
  clear hoff
  go_wp2_with fail
  have hb2 : Below w.heap.size w (w1.alloc (.cells #[.pointer (some ⟨d, 0, none⟩), .string s, .slice none 0 0, .int .i64 0, .int .i64 0, .int .i64 0, .int .i64 0] 122)) := bel_alloc HB1.out _
  refine (files_any d S D N _ (HD.out.below hb2) HW.out).mono ?_
  rintro e w2 ⟨v, rfl, hrow, hb3⟩
  have hblk := (Blk.new w1 #[.pointer (some ⟨d, 0, none⟩), .string s, .slice none 0 0, .int .i64 0, .int .i64 0, .int .i64 0, .int .i64 0] 122).below' hb3
  have hb4 := bel_next hb2 hb3
  have hle := HB1.out.size
  have hrow := own_base (base' := w.heap.size) hrow (by simp; omega)
  clear hb2 hb3
  generalize w1.heap.size = l at hblk hle ⊢
  have HB := hid hblk
  have HB4 := hid hb4
  have HROW := hid hrow
  obtain ⟨ad, cap, rfl⟩ := row_slice hrow
  clear hrow hblk hb4
  have hlw : l < w2.heap.size := HB.out.lt
  go_wp2_with fail
  go_loopw [39, 8] (fun c v wr => LastRel w2 (tl s) D c v wr) (fun c _ _ => D.files.length - (intOf c).toNat)
  case atStart => exact ⟨0, by omega, rfl, rfl, Below.refl _ _⟩
  case round =>
    obtain ⟨k, hk, rfl, rfl, hb⟩ := hrel
    have HBR := hid hb
    have hszr := hb.size
    clear hb
    by_cases hlt : k < D.files.length
    · obtain ⟨f, hf⟩ : ∃ f, D.files[k]? = some f := ⟨_, List.getElem?_eq_getElem hlt⟩
      obtain ⟨g, cap2, he, hg1, hg2, e0, e1, e2⟩ := row_file HROW.out hf
      injection he with he1 he2 he3
      subst he1
      have d0 := (HBR.out.cell (p := ⟨g, k * 3, none⟩) hg2).trans e0
      have d1 := (HBR.out.cell (p := ⟨g, k * 3 + 1, none⟩) hg2).trans e1
      have d2 := (HBR.out.cell (p := ⟨g, k * 3 + 2, none⟩) hg2).trans e2
      have hsn : lastOwn (tl s) (D.files.take (k + 1)) = if own (tl s) f then f.name else lastOwn (tl s) (D.files.take k) := by
        rw [List.take_add_one, hf]
        exact lastOwn_snoc _ _ _
      have HSN := hid hsn
      have k0 : (0 : Int) ≤ (k : Int) := Int.natCast_nonneg _
      have k1 : (k : Int) < (D.files.length : Int) := by omega
      have hlr : l < wr.heap.size := by omega
      have hown : own (tl s) f = (segBase (tl s) f.name).isSome := rfl
      have HOWN := hid hown
      clear e0 e1 e2 hf hsn he2 he3 hown
      go_wp2_with fail
      refine (base_any (l := l) (tl s) f.name (w := _) ?hnm hnl).mono ?_
      case hnm =>
        have h9 := ((HB.out.below' HBR.out).alloc (.cells #[.string (bs f.name), .string (bs f.sure), .string (bs f.loose)] 138)).cell (i := 1) (v := .string s) rfl
        rw [bs_tl]; exact h9
      rintro e w4 ⟨hb4, hm⟩
      have hbx := (Blk.new wr #[.string (bs f.name), .string (bs f.sure), .string (bs f.loose)] 138).below' hb4
      have HB5 := hid (HBR.out.trans (Below.trans (bel_alloc (Below.refl _ _) (.cells #[.string (bs f.name), .string (bs f.sure), .string (bs f.loose)] 138)) (hb4.mono (by simp)) |>.mono hszr))
      have q0 := hbx.cell (i := 0) (v := .string (bs f.name)) rfl
      clear hb4 hbx d0 d1 d2
      cases hsb : segBase (tl s) f.name with
      | none =>
        rw [hsb] at hm HOWN
        obtain ⟨bv, rfl⟩ := hm
        clear hsb
        go_wp2_with fail
        go_roundw
        case rel => exact ⟨k + 1, by omega, by go_num, by rw [HSN.out, HOWN.out]; rfl, HB5.out⟩
        case measure => simp [intOf]; omega
      | some b =>
        rw [hsb] at hm HOWN
        dsimp only at hm
        subst hm
        clear hsb
        go_wp2_with fail
        go_roundw
        case rel => exact ⟨k + 1, by omega, by go_num, by rw [HSN.out, HOWN.out]; rfl, HB5.out⟩
        case measure => simp [intOf]; omega
    · obtain rfl : k = D.files.length := by omega
      obtain ⟨wo, rfl⟩ : ∃ wo : World, wr = wo := ⟨_, rfl⟩
      rw [List.take_length]
      have hll := lastOwn_len (name := tl s) D.files (fun f hf => okName_len (HW.out.ok f hf))
      have hblk := HB.out.below' HBR.out
      have hstart : OpenMid w l d S D N (tl s) (.slice ad D.files.length cap) 0 [] (.slice none 0 0) S (newLog (tl s)) D wr := by
        have hbl : Below w.heap.size w wr := bel_next HB4.out HBR.out
        refine ⟨⟨by rw [show (newLog (tl s)).name = tl s from rfl, bs_tl]; exact hblk, rfl, World.ownsRow_nil _ _ _ _, fun i x v hx _ => by simp [newLog] at hx, fun i j a b k ha _ _ _ => by simp at ha⟩, HD.out.below hbl, HW.out, ?_, fun i hi => .inl hi, Fr.of_below hbl, own_bel HROW.out HBR.out, ⟨Int.le_refl _, (by decide : (0 : Int) ≤ 1099511627776)⟩, Nat.le_refl _, rfl⟩
        rintro i (rfl | h9 | ⟨v9, h9, _⟩)
        · exact hle
        · simp [Value.ownBlock] at h9
        · simp at h9
      have HST := hid hstart
      clear hblk hstart
      generalize hlast : lastOwn (tl s) D.files = last at hll ⊢
      have HLA := hid hlast
      clear hlast
      go_wp2_with fail
      go_loopw [56] (fun c wr => ∃ (k : Nat) (ms : List Value) (sv : Value) (SD : Nat → Prop) (L : PLog) (E : PDisk), k ≤ D.files.length ∧ c = .int .i64 k ∧ OpenMid w l d S D N (tl s) (.slice ad D.files.length cap) k ms sv SD L E wr ∧ openL (tl s) last D.files (newLog (tl s)) D = openL (tl s) last (D.files.drop k) L E) (fun c _ => D.files.length - (intOf c).toNat)
      case atStart => exact ⟨0, _, _, _, _, _, by omega, rfl, HST.out, by rw [List.drop_zero]⟩
      case round =>
        clear HST
        obtain ⟨k, ms, sv, SD, L, E, hk, rfl, hmid, hgo⟩ := hrel
        have HM := hid hmid
        have HGO := hid hgo
        clear hmid hgo
        by_cases hlt : k < D.files.length
        · obtain ⟨f, hf⟩ : ∃ f, D.files[k]? = some f := ⟨_, List.getElem?_eq_getElem hlt⟩
          have hdr : D.files.drop k = f :: D.files.drop (k + 1) := by
            rw [List.drop_eq_getElem_cons hlt, (List.getElem?_eq_some_iff.1 hf).2]
          have hfm := List.mem_of_getElem? hf
          have hfs := HW.out.fsize hfm
          obtain ⟨hf1, hf2⟩ := HW.out.lens hfm
          have hfn := okName_len (HW.out.ok f hfm)
          have HGO2 := hid (by have h9 := HGO.out; rw [hdr] at h9; exact h9)
          obtain ⟨g, cap2, he, hg1, hg2, e0, e1, e2⟩ := row_file HM.out.row hf
          injection he with he1 he2 he3
          subst he1
          have k0 : (0 : Int) ≤ (k : Int) := Int.natCast_nonneg _
          have k1 : (k : Int) < (D.files.length : Int) := by omega
          have hcnt := HM.out.cnt
          have hfz : f.size = f.sure.length + f.loose.length := rfl
          clear hf hdr he2 he3 HGO hfm
          go_wp2_with fail
          have hba := bel_alloc (Below.refl wr.heap.size wr) (.cells #[.string (bs f.name), .string (bs f.sure), .string (bs f.loose)] 138)
          have hm4 := HM.out.below hba
          have hname := hm4.log.cells.2.1
          rw [HM.out.nm] at hname
          refine (base_any (l := l) (tl s) f.name (w := _) hname hnl).mono ?_
          rintro e w4 ⟨hb4, hm⟩
          have hbx := (Blk.new wr #[.string (bs f.name), .string (bs f.sure), .string (bs f.loose)] 138).below' hb4
          have HM4 := hid (hm4.below hb4)
          generalize wr.heap.size = bx at hbx ⊢
          have HBX := hid hbx
          clear hba hm4 hb4 e0 e1 e2 hname HM
          cases hsb : segBase (tl s) f.name with
          | none =>
            rw [hsb] at hm
            obtain ⟨bv, rfl⟩ := hm
            have HSB := hid hsb
            clear hsb hbx
            go_wp2_with fail
            go_roundw
            case rel =>
              refine ⟨k + 1, ms, sv, SD, L, E, by omega, by go_num, HM4.out.up, ?_⟩
              rw [HGO2.out, openL, HSB.out]
            case measure => simp [intOf]; omega
          | some b =>
            rw [hsb] at hm
            dsimp only at hm
            subst hm
            have HSB := hid hsb
            have hsb9 := segBase_some hsb
            obtain ⟨hb0, hb1⟩ := hsb9.2
            clear hsb9
            obtain ⟨c0, c1, c2, c3, c4, c5, c6⟩ := HM4.out.log.cells
            obtain ⟨sad, scap, hsv, _⟩ := HM4.out.log.form
            rw [hsv] at c2
            have z3 := HM4.out.log.hdr.free 3
            have z4 := HM4.out.log.hdr.free 4
            have q0 := hbx.cell (i := 0) (v := .string (bs f.name)) rfl
            have q1 := hbx.cell (i := 1) (v := .string (bs f.sure)) rfl
            have q2 := hbx.cell (i := 2) (v := .string (bs f.loose)) rfl
            have HSV := hid hsv
            clear hsb hbx hsv
            by_cases hsz0 : L.segs.length = 0
            · have hl0 : ((L.segs.length : Int) == 0) = true := by rw [hsz0]; rfl
              have hsn : L.segs = [] := List.eq_nil_of_length_eq_zero hsz0
              have HSN := hid hsn
              clear hsn
              go_upto_region 22 with fail
              have hst : Fr (fun k => k = l) w4 ((w4.setCell ⟨l, 3, none⟩ (.int .i64 b)).setCell ⟨l, 4, none⟩ (.int .i64 b)) := fr_two (S := fun k => k = l) (a := ⟨l, 3, none⟩) (b := ⟨l, 4, none⟩) rfl rfl
              have hlog5 : LogRep ((w4.setCell ⟨l, 3, none⟩ (.int .i64 b)).setCell ⟨l, 4, none⟩ (.int .i64 b)) l d ms sv (L.begin b) := by
                unfold PLog.begin
                rw [if_pos HSN.out]
                exact HM4.out.log.set hst ((HM4.out.log.hdr.set 3 _).set 4 _)
              have hnb : (L.begin b).next = b := by unfold PLog.begin; rw [if_pos HSN.out]
              obtain ⟨hm5, hkb5⟩ := HM4.out.turn (k' := k) hlog5 (hst.mono (by rintro j _ rfl; exact .inl rfl)) (fun j hj => .inl hj) (by rw [hnb]; omega) (by rw [PLog.begin_segs]; exact HM4.out.cnt) (by rw [PLog.begin_name]; exact HM4.out.nm)
              have HM5 := hid hm5
              have HBX5 := hid (hkb5 HBX.out)
              have HNB := hid hnb
              have u4 := hlog5.cells.2.2.2.2.1
              rw [hnb] at u4
              clear c0 c1 c2 c3 c4 c5 c6 q0 q1 q2 hst hlog5 hm5 hkb5 hnb z3 z4
              generalize (w4.setCell ⟨l, 3, none⟩ (.int .i64 b)).setCell ⟨l, 4, none⟩ (.int .i64 b) = w5 at HM5 HBX5 u4 ⊢
              have q0 := HBX5.out.cell (i := 0) (v := .string (bs f.name)) rfl
              have q1 := HBX5.out.cell (i := 1) (v := .string (bs f.sure)) rfl
              have q2 := HBX5.out.cell (i := 2) (v := .string (bs f.loose)) rfl
              have hcat : (bs f.sure).size + (bs f.loose).size ≤ 9223372036854775807 := by rw [bs_size, bs_size]; omega
              have hcat2 : ¬ 9223372036854775807 < (bs f.sure).size + (bs f.loose).size := by omega
              have t1 : (bs f.sure).size = f.sure.length := rfl
              have t2 : (bs f.loose).size = f.loose.length := rfl
              go_wp2_with fail
              rw [bs_append]
              refine (load_any b (f.sure ++ f.loose) HM5.out.log HM5.out.next (by have := HM5.out.cnt; omega) (by rw [List.length_append]; omega)).mono ?_
              rintro e w6 ⟨rfl, ms', sv', hlr, hfr, hft⟩
              obtain ⟨hm6, hkb⟩ := HM5.out.turn (k' := k + 1) hlr hfr hft (PLog.load_next b _ HM5.out.next) (by rw [PLog.load_segs]; have := HM5.out.cnt; omega) (by rw [PLog.load_name]; exact HM5.out.nm)
              have hbx6 := hkb HBX5.out
              obtain ⟨g1', g2'⟩ := PLog.load_good (L.begin b) b (f.sure ++ f.loose)
              rw [List.length_append] at g2'
              have HM6 := hid hm6
              have q0 := hbx6.cell (i := 0) (v := .string (bs f.name)) rfl
              have q1 := hbx6.cell (i := 1) (v := .string (bs f.sure)) rfl
              have q2 := hbx6.cell (i := 2) (v := .string (bs f.loose)) rfl
              clear hlr hfr hft hkb hbx6 hm6
              generalize hld : (L.begin b).load b (f.sure ++ f.loose) = LL at HM6 g1' g2' ⊢
              obtain ⟨L6, G⟩ := LL
              have HLD := hid hld
              dsimp only at HM6 g1' g2' ⊢
              clear hld
              have HGO3 : Hid (openL (tl s) last D.files (newLog (tl s)) D = if G = f.size then openL (tl s) last (D.files.drop (k + 1)) L6 E else if f.name ≠ last then (L6, E, 2)
                  else if (E.truncate f.name G).2 ≠ 0 then (L6, (E.truncate f.name G).1, (E.truncate f.name G).2) else openL (tl s) last (D.files.drop (k + 1)) L6 (E.truncate f.name G).1) := hid (by
                rw [HGO2.out, openL, HSB.out]
                dsimp only
                rw [HLD.out, if_neg (fun h9 => h9 HNB.out)])
              by_cases hG : G = (f.size : Int)
              · have HG := hid hG
                have hge : (G == (f.sure.length : Int) + (f.loose.length : Int)) = true := by simp; omega
                clear hG
                go_wp2_with fail
                go_roundw
                case rel => exact ⟨k + 1, ms', sv', SD, L6, E, by omega, by go_num, HM6.out, by rw [HGO3.out, if_pos HG.out]⟩
                case measure => simp [intOf]; omega
              · have hge : (G == (f.sure.length : Int) + (f.loose.length : Int)) = false := by simp; omega
                have HG := hid hG
                clear hG
                by_cases hnl2 : f.name = last
                · have hse := str_eq_true (a := bs f.name) (b := bs last) hnl2
                  have HNL := hid hnl2
                  clear hnl2
                  go_wp2_with fail
                  refine (truncate_any d SD E N f.name G _ HM6.out.disk HM6.out.wf (by omega)).mono ?_
                  rintro e w7 ⟨rfl, hto⟩
                  obtain ⟨SD7, hm7⟩ := HM6.out.cut hto (HM6.out.wf.truncate f.name G)
                  have HM7 := hid hm7
                  clear hto hm7
                  have HG4 : Hid (openL (tl s) last D.files (newLog (tl s)) D = if (E.truncate f.name G).2 ≠ 0 then (L6, (E.truncate f.name G).1, (E.truncate f.name G).2) else openL (tl s) last (D.files.drop (k + 1)) L6 (E.truncate f.name G).1) := hid (by
                    rw [HGO3.out, if_neg HG.out, if_neg (fun h9 => h9 HNL.out)])
                  generalize E.truncate f.name G = TT at HM7 HG4 ⊢
                  obtain ⟨E7, c7⟩ := TT
                  dsimp only at HM7 HG4 ⊢
                  by_cases hc7 : c7 = 0
                  · subst hc7
                    go_wp2_with fail
                    go_roundw
                    case rel => exact ⟨k + 1, ms', sv', SD7, L6, E7, by omega, by go_num, HM7.out, by rw [HG4.out, if_neg (fun h9 => h9 rfl)]⟩
                    case measure => simp [intOf]; omega
                  · have hcb : (c7 != 0) = true := by simpa using hc7
                    have HC7 := hid hc7
                    have HO := hid (PDisk.openLog_err (r := (L6, E7, c7)) HOK.out HOF.out (by rw [HLA.out, HG4.out, if_pos HC7.out]) HC7.out)
                    clear hc7
                    go_wp2_with fail
                    go_ret2
                    refine .inl ?_
                    rw [HO.out]
                    exact ⟨HC7.out, rfl, HM7.out.to⟩
                · have hse := str_eq_false (a := bs f.name) (b := bs last) hnl2
                  have HO := hid (PDisk.openLog_err (r := (L6, E, 2)) HOK.out HOF.out (by rw [HLA.out, HGO3.out, if_neg HG.out, if_pos hnl2]) (by show (2 : Int) ≠ 0; decide))
                  clear hnl2
                  go_wp2_with fail
                  go_ret2
                  refine .inl ?_
                  rw [HO.out]
                  exact ⟨(by decide : (2 : Int) ≠ 0), rfl, HM6.out.to⟩
            · have hl0 : ((L.segs.length : Int) == 0) = false := by rw [beq_eq_false_iff_ne]; omega
              have hbe : L.begin b = L := by unfold PLog.begin; rw [if_neg (fun h9 => hsz0 (by rw [h9]; rfl))]
              by_cases hnb : L.next = b
              · have HNB : Hid ((L.begin b).next = b) := hid (by rw [hbe]; exact hnb)
                have HM5 : Hid (OpenMid w l d S D N (tl s) (Value.slice (some ⟨g, 0, none⟩) D.files.length cap) k ms sv SD (L.begin b) E w4) := hid (by rw [hbe]; exact HM4.out)
                have HBX5 := HBX
                have hnn : (b != L.next) = false := by simp; omega
                clear hbe hnb
                have hcat : (bs f.sure).size + (bs f.loose).size ≤ 9223372036854775807 := by rw [bs_size, bs_size]; omega
                have hcat2 : ¬ 9223372036854775807 < (bs f.sure).size + (bs f.loose).size := by omega
                have t1 : (bs f.sure).size = f.sure.length := rfl
                have t2 : (bs f.loose).size = f.loose.length := rfl
                go_wp2_with fail
                rw [bs_append]
                refine (load_any b (f.sure ++ f.loose) HM5.out.log HM5.out.next (by have := HM5.out.cnt; omega) (by rw [List.length_append]; omega)).mono ?_
                rintro e w6 ⟨rfl, ms', sv', hlr, hfr, hft⟩
                obtain ⟨hm6, hkb⟩ := HM5.out.turn (k' := k + 1) hlr hfr hft (PLog.load_next b _ HM5.out.next) (by rw [PLog.load_segs]; have := HM5.out.cnt; omega) (by rw [PLog.load_name]; exact HM5.out.nm)
                have hbx6 := hkb HBX5.out
                obtain ⟨g1', g2'⟩ := PLog.load_good (L.begin b) b (f.sure ++ f.loose)
                rw [List.length_append] at g2'
                have HM6 := hid hm6
                have q0 := hbx6.cell (i := 0) (v := .string (bs f.name)) rfl
                have q1 := hbx6.cell (i := 1) (v := .string (bs f.sure)) rfl
                have q2 := hbx6.cell (i := 2) (v := .string (bs f.loose)) rfl
                clear hlr hfr hft hkb hbx6 hm6
                generalize hld : (L.begin b).load b (f.sure ++ f.loose) = LL at HM6 g1' g2' ⊢
                obtain ⟨L6, G⟩ := LL
                have HLD := hid hld
                dsimp only at HM6 g1' g2' ⊢
                clear hld
                have HGO3 : Hid (openL (tl s) last D.files (newLog (tl s)) D = if G = f.size then openL (tl s) last (D.files.drop (k + 1)) L6 E else if f.name ≠ last then (L6, E, 2)
                    else if (E.truncate f.name G).2 ≠ 0 then (L6, (E.truncate f.name G).1, (E.truncate f.name G).2) else openL (tl s) last (D.files.drop (k + 1)) L6 (E.truncate f.name G).1) := hid (by
                  rw [HGO2.out, openL, HSB.out]
                  dsimp only
                  rw [HLD.out, if_neg (fun h9 => h9 HNB.out)])
                by_cases hG : G = (f.size : Int)
                · have HG := hid hG
                  have hge : (G == (f.sure.length : Int) + (f.loose.length : Int)) = true := by simp; omega
                  clear hG
                  go_wp2_with fail
                  go_roundw
                  case rel => exact ⟨k + 1, ms', sv', SD, L6, E, by omega, by go_num, HM6.out, by rw [HGO3.out, if_pos HG.out]⟩
                  case measure => simp [intOf]; omega
                · have hge : (G == (f.sure.length : Int) + (f.loose.length : Int)) = false := by simp; omega
                  have HG := hid hG
                  clear hG
                  by_cases hnl2 : f.name = last
                  · have hse := str_eq_true (a := bs f.name) (b := bs last) hnl2
                    have HNL := hid hnl2
                    clear hnl2
                    go_wp2_with fail
                    refine (truncate_any d SD E N f.name G _ HM6.out.disk HM6.out.wf (by omega)).mono ?_
                    rintro e w7 ⟨rfl, hto⟩
                    obtain ⟨SD7, hm7⟩ := HM6.out.cut hto (HM6.out.wf.truncate f.name G)
                    have HM7 := hid hm7
                    clear hto hm7
                    have HG4 : Hid (openL (tl s) last D.files (newLog (tl s)) D = if (E.truncate f.name G).2 ≠ 0 then (L6, (E.truncate f.name G).1, (E.truncate f.name G).2) else openL (tl s) last (D.files.drop (k + 1)) L6 (E.truncate f.name G).1) := hid (by
                      rw [HGO3.out, if_neg HG.out, if_neg (fun h9 => h9 HNL.out)])
                    generalize E.truncate f.name G = TT at HM7 HG4 ⊢
                    obtain ⟨E7, c7⟩ := TT
                    dsimp only at HM7 HG4 ⊢
                    by_cases hc7 : c7 = 0
                    · subst hc7
                      go_wp2_with fail
                      go_roundw
                      case rel => exact ⟨k + 1, ms', sv', SD7, L6, E7, by omega, by go_num, HM7.out, by rw [HG4.out, if_neg (fun h9 => h9 rfl)]⟩
                      case measure => simp [intOf]; omega
                    · have hcb : (c7 != 0) = true := by simpa using hc7
                      have HC7 := hid hc7
                      have HO := hid (PDisk.openLog_err (r := (L6, E7, c7)) HOK.out HOF.out (by rw [HLA.out, HG4.out, if_pos HC7.out]) HC7.out)
                      clear hc7
                      go_wp2_with fail
                      go_ret2
                      refine .inl ?_
                      rw [HO.out]
                      exact ⟨HC7.out, rfl, HM7.out.to⟩
                  · have hse := str_eq_false (a := bs f.name) (b := bs last) hnl2
                    have HO := hid (PDisk.openLog_err (r := (L6, E, 2)) HOK.out HOF.out (by rw [HLA.out, HGO3.out, if_neg HG.out, if_pos hnl2]) (by show (2 : Int) ≠ 0; decide))
                    clear hnl2
                    go_wp2_with fail
                    go_ret2
                    refine .inl ?_
                    rw [HO.out]
                    exact ⟨(by decide : (2 : Int) ≠ 0), rfl, HM6.out.to⟩
              · have hnn : (b != L.next) = true := by simp; omega
                have HO := hid (PDisk.openLog_err (r := (L, E, 2)) HOK.out HOF.out (by
                  rw [HLA.out, HGO2.out, openL, HSB.out]
                  dsimp only
                  rw [hbe, if_pos (fun h9 => hnb h9)]) (by show (2 : Int) ≠ 0; decide))
                clear hbe hnb
                go_wp2_with fail
                go_ret2
                refine .inl ?_
                rw [HO.out]
                exact ⟨(by decide : (2 : Int) ≠ 0), rfl, HM4.out.to⟩
        · obtain rfl : k = D.files.length := by omega
          have hgo := HGO.out
          rw [List.drop_length, openL] at hgo
          have HG9 := hid hgo
          clear hgo HGO
          obtain ⟨c0, c1, c2, c3, c4, c5, c6⟩ := HM.out.log.cells
          have z5 := HM.out.log.hdr.free 5
          by_cases hl0 : last = []
          · have hemp : (bs last).toList.isEmpty = true := by rw [toList_tl, tl_bs, hl0]; rfl
            have HO : Hid (D.openLog (tl s) = ({ L with sure := L.next }, E, 0)) := hid (by
              unfold PDisk.openLog
              rw [if_neg (by rw [HOK.out]; decide), if_neg (by rw [HOF.out]; decide)]
              dsimp only
              rw [HLA.out, HG9.out, if_neg (fun h9 => h9 rfl), if_pos hl0])
            clear hl0
            go_wp2_with fail
            go_ret2
            obtain ⟨S9, SD9, a1, a2, a3, a4, a5⟩ := HM.out.done
            refine .inr ?_
            rw [HO.out]
            exact ⟨rfl, l, S9, SD9, rfl, a1, a2, a3, a4, a5⟩
          · have hemp : (bs last).toList.isEmpty = false := by rw [toList_tl, tl_bs]; simpa using hl0
            have HL0 := hid hl0
            clear hl0
            go_wp2_with fail
            refine (sync_any d SD E N last _ HM.out.disk HM.out.wf (by omega)).mono ?_
            rintro e w7 ⟨rfl, hto⟩
            obtain ⟨SD7, hm7⟩ := HM.out.cut hto (HM.out.wf.sync last)
            have HM7 := hid hm7
            have HG4 : Hid (D.openLog (tl s) = if (E.sync last).2 ≠ 0 then (L, (E.sync last).1, (E.sync last).2) else ({ L with sure := L.next }, (E.sync last).1, 0)) := hid (by
              unfold PDisk.openLog
              rw [if_neg (by rw [HOK.out]; decide), if_neg (by rw [HOF.out]; decide)]
              dsimp only
              rw [HLA.out, HG9.out, if_neg (fun h9 => h9 rfl), if_neg HL0.out])
            clear hto hm7 c0 c1 c2 c3 c4 c5 c6 z5
            generalize E.sync last = TT at HM7 HG4 ⊢
            obtain ⟨E7, c7⟩ := TT
            dsimp only at HM7 HG4 ⊢
            obtain ⟨c0, c1, c2, c3, c4, c5, c6⟩ := HM7.out.log.cells
            have z5 := HM7.out.log.hdr.free 5
            by_cases hc7 : c7 = 0
            · subst hc7
              have HO : Hid (D.openLog (tl s) = ({ L with sure := L.next }, E7, 0)) := hid (by rw [HG4.out, if_neg (fun h9 => h9 rfl)])
              go_wp2_with fail
              go_ret2
              obtain ⟨S9, SD9, a1, a2, a3, a4, a5⟩ := HM7.out.done
              refine .inr ?_
              rw [HO.out]
              exact ⟨rfl, l, S9, SD9, rfl, a1, a2, a3, a4, a5⟩
            · have hcb : (c7 != 0) = true := by simpa using hc7
              have HC7 := hid hc7
              have HO : Hid (D.openLog (tl s) = (L, E7, c7)) := hid (by rw [HG4.out, if_pos HC7.out])
              clear hc7
              go_wp2_with fail
              go_ret2
              refine .inl ?_
              rw [HO.out]
              exact ⟨HC7.out, rfl, HM7.out.to⟩
end Go.Proofs.YtgjkjkeeblbjlaaGreatDoor
