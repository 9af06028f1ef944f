/-
  A log and its files: what stays true, whatever is appended and synced. No conditions.
  What an append to a log comes to. No conditions.
  What a fetch from a log tells. No conditions.
  All entries of a log are fetched. No conditions.
-/
import Derived.Test.YtgjkjkeeblbjlaaGreatDoorGDM
import Derived.Test.YtgjkjkeeblbjlaaGreatDoorGEM
set_option maxRecDepth 100000
namespace Go.Proofs.YtgjkjkeeblbjlaaGreatDoor
open Go.RowKit

theorem segName_ok {name : List UInt8} (h : okLog name = true) (b : Int) : okName (segName name b) = true := by
  unfold okLog at h
  simp only [Bool.and_eq_true, decide_eq_true_eq] at h
  obtain ⟨⟨h1, h2⟩, h3⟩ := h
  unfold okName segName
  simp only [Bool.and_eq_true, decide_eq_true_eq]
  refine ⟨⟨by simp, by simp [digs_len]; omega⟩, ?_⟩
  rw [List.all_eq_true] at h3 ⊢
  intro c hc
  unfold nameByte
  rcases List.mem_append.1 hc with hc | hc
  · have := h3 c hc
    unfold logByte at this
    rw [this]; rfl
  · rcases List.mem_cons.1 hc with rfl | hc
    · decide
    · have := digs_digit 13 b c hc
      unfold isDigit at this
      simp only [decide_eq_true_eq] at this
      simp [this.1, this.2]

/-- Where segments end. -/
def sEnd (b : Int) (l : List ASeg) : Int := match l.getLast? with | none => b | some s => s.next
/-- Segments that lie one behind the other. -/
def SChain : Int → List ASeg → Prop
  | _, [] => True
  | b, s :: r => s.base = b ∧ Chain b s.ents ∧ SChain s.next r

theorem sEnd_cons (b : Int) (s : ASeg) (l : List ASeg) : sEnd b (s :: l) = sEnd s.next l := by
  unfold sEnd
  cases l with
  | nil => rfl
  | cons y l =>
    rw [List.getLast?_cons_cons]
    cases hg : (y :: l).getLast? with
    | none => simp at hg
    | some z => rfl
theorem sEnd_snoc (b : Int) (l : List ASeg) (s : ASeg) : sEnd b (l ++ [s]) = s.next := by unfold sEnd; simp
theorem sEnd_app (b : Int) (l m : List ASeg) : sEnd b (l ++ m) = sEnd (sEnd b l) m := by
  unfold sEnd
  rw [List.getLast?_append]
  cases m.getLast? <;> cases l.getLast? <;> rfl

theorem SChain.app {b : Int} {l m : List ASeg} : SChain b (l ++ m) ↔ SChain b l ∧ SChain (sEnd b l) m := by
  induction l generalizing b with
  | nil => simp [SChain, sEnd]
  | cons s l ih =>
    simp only [List.cons_append, SChain, sEnd_cons]
    rw [ih]
    constructor
    · rintro ⟨h1, h2, h3, h4⟩; exact ⟨⟨h1, h2, h3⟩, h4⟩
    · rintro ⟨⟨h1, h2, h3⟩, h4⟩; exact ⟨h1, h2, h3, h4⟩

theorem SChain.all {b : Int} {l : List ASeg} (h : SChain b l) : Chain b (l.flatMap ASeg.ents) ∧ endOf b (l.flatMap ASeg.ents) = sEnd b l := by
  induction l generalizing b with
  | nil => exact ⟨trivial, rfl⟩
  | cons s l ih =>
    obtain ⟨rfl, h2, h3⟩ := h
    obtain ⟨h4, h5⟩ := ih h3
    rw [List.flatMap_cons, sEnd_cons]
    exact ⟨Chain.app.2 ⟨h2, h4⟩, by rw [endOf_app]; exact h5⟩

theorem SChain.le {b : Int} {l : List ASeg} (h : SChain b l) : b ≤ sEnd b l := by
  have := h.all
  rw [← this.2]; exact this.1.le

theorem ALog.next_eq (A : ALog) : A.next = sEnd A.first A.segs := by
  unfold ALog.next ALog.first sEnd
  cases h : A.segs.getLast? with
  | none =>
    have : A.segs = [] := by simpa using h
    rw [this]
  | some s => rfl

/-- A log's files. -/
def filesOf (name : List UInt8) (D : PDisk) : List PFile := D.files.filter (own name)

/-- A log's segments are its files, but for what no segment knows. -/
structure Inv (A : ALog) (D : PDisk) : Prop where
  name : okLog A.name = true
  first : 0 ≤ A.first
  top : A.next ≤ 1099511627776
  chain : SChain A.first A.segs
  full : ∀ s ∈ A.segs.dropLast, 1024 ≤ s.size
  files : (filesOf A.name D).map (fun f => (f.name, f.sure ++ f.loose)) = A.segs.map (fun s => (segName A.name s.base, layText s.ents))
  sync : ∀ f ∈ (filesOf A.name D).dropLast, f.loose = []
  sure : ∀ s f, A.segs.getLast? = some s → (filesOf A.name D).getLast? = some f → ∃ p q, s.ents = p ++ q ∧ f.sure = layText p ∧ f.loose = layText q ∧ A.sure = endOf s.base p
  nosegs : A.segs = [] → A.sure = 0

theorem Inv.nlen {A : ALog} {D : PDisk} (h : Inv A D) : A.name.length ≤ 8 := by
  have h := h.name
  unfold okLog at h
  simp only [Bool.and_eq_true, decide_eq_true_eq] at h
  exact h.1.2

theorem Inv.base {A : ALog} {D : PDisk} (h : Inv A D) {s : ASeg} (hs : s ∈ A.segs) : 0 ≤ s.base ∧ s.base ≤ s.next ∧ s.next ≤ A.next := by
  obtain ⟨a, b, hab⟩ := List.append_of_mem hs
  have hc := h.chain
  have hn := A.next_eq
  rw [hab] at hc hn
  rw [sEnd_app, sEnd_cons] at hn
  obtain ⟨h1, h2⟩ := SChain.app.1 hc
  have h3 := h1.le
  obtain ⟨h4, h5, h6⟩ := h2
  have h7 := h5.le
  have h8 := h6.le
  have h9 := h.first
  have h10 : s.next = endOf s.base s.ents := rfl
  rw [h4] at h10
  omega

theorem Inv.base_max {A : ALog} {D : PDisk} (h : Inv A D) {s : ASeg} (hs : s ∈ A.segs) : s.base ≤ 1099511627776 := by
  have := h.base hs
  have := h.top
  omega

theorem filesOf_mem {name : List UInt8} {D : PDisk} {f : PFile} : f ∈ filesOf name D ↔ f ∈ D.files ∧ own name f = true := List.mem_filter

theorem filesOf_sorted {name : List UInt8} {D : PDisk} (h : Sorted D.files) : Sorted (filesOf name D) := by
  unfold Sorted filesOf at *
  exact h.filter _

theorem own_seg (name : List UInt8) {b : Int} (h0 : 0 ≤ b) (h1 : b ≤ 1099511627776) (s l : List UInt8) : own name ⟨segName name b, s, l⟩ = true := own_iff.2 ⟨b, rfl, h0, h1⟩

/-- The last segment has the last file. -/
theorem Inv.last {A : ALog} {D : PDisk} (h : Inv A D) {a : List ASeg} {s : ASeg} (hs : A.segs = a ++ [s]) :
    ∃ fs f, filesOf A.name D = fs ++ [f] ∧ f.name = segName A.name s.base ∧ (∃ p q, s.ents = p ++ q ∧ f.sure = layText p ∧ f.loose = layText q ∧ A.sure = endOf s.base p) ∧
      (fs.map fun f => (f.name, f.sure ++ f.loose)) = a.map (fun s => (segName A.name s.base, layText s.ents)) ∧ ∀ g ∈ fs, g.loose = [] := by
  have hf := h.files
  have hy := h.sync
  have hu := h.sure
  rw [hs] at hf hu
  generalize filesOf A.name D = F at hf hy hu ⊢
  rcases List.eq_nil_or_concat F with rfl | ⟨fs, f, hF⟩
  · simp at hf
  · rw [List.concat_eq_append] at hF
    subst hF
    simp only [List.map_append, List.map_cons, List.map_nil] at hf
    obtain ⟨h1, h2⟩ := List.append_inj' hf rfl
    simp only [List.cons.injEq, Prod.mk.injEq, and_true] at h2
    refine ⟨fs, f, rfl, h2.1, hu s f (by simp) (by simp), h1, fun g hg => hy g (by rw [List.dropLast_concat]; exact hg)⟩

theorem look_own {D : PDisk} {N : Int} {name nm : List UInt8} (hw : D.WF N) {f : PFile} (hf : f ∈ filesOf name D) (hn : f.name = nm) : D.look nm = some f := by
  rw [← hn]; exact D.look_mem hw.sorted (filesOf_mem.1 hf).1

theorem look_seg {D : PDisk} {name : List UInt8} {b : Int} (h0 : 0 ≤ b) (h1 : b ≤ 1099511627776) (hn : ∀ f ∈ filesOf name D, f.name ≠ segName name b) : D.look (segName name b) = none := by
  cases hl : D.look (segName name b) with
  | none => rfl
  | some f =>
    obtain ⟨h2, h3⟩ := PDisk.look_some hl
    exact absurd h3 (hn f (filesOf_mem.2 ⟨h2, own_iff.2 ⟨b, h3, h0, h1⟩⟩))

/-- What an append to a disk comes to. -/
theorem PDisk.append_out (D : PDisk) {nm : List UInt8} (t : List UInt8) (hok : okName nm = true) :
    (D.append nm t = (D, 4) ∧ D.off = true) ∨ (D.append nm t = (D, 5) ∧ D.off = false) ∨
    (D.off = false ∧ ∃ D' e, D.append nm t = (D', e) ∧ D'.files = putF D.files { (D.look nm).getD ⟨nm, [], []⟩ with loose := ((D.look nm).getD ⟨nm, [], []⟩).loose ++ t } ∧
      ((e = 0 ∧ D'.off = false ∧ D.fuse ≠ 0 ∧ (D.fuse = -1 → D'.fuse = -1)) ∨ (e = 4 ∧ D'.off = true ∧ D.fuse = 0))) := by
  have e1 : D.ready nm = if D.off then 4 else 0 := by unfold PDisk.ready; rw [if_pos hok]
  cases ho : D.off with
  | true =>
    refine .inl ⟨?_, rfl⟩
    unfold PDisk.append
    rw [e1, ho]; rfl
  | false =>
    rw [ho] at e1
    have e2 : D.ready nm = 0 := e1
    unfold PDisk.append
    rw [if_neg (by rw [e2]; decide)]
    dsimp only
    cases hl : D.look nm
    all_goals
      simp only [Option.getD_none, Option.getD_some]
      split
      · exact .inr (.inl ⟨rfl, trivial⟩)
      · refine .inr (.inr ⟨trivial, _, _, rfl, ?_, ?_⟩)
        · rw [(PDisk.burn_files _).1]
        · unfold PDisk.burn
          dsimp only
          split
          · exact .inr ⟨rfl, rfl, by assumption⟩
          · split
            · exact .inl ⟨rfl, ho, by assumption, fun h => by omega⟩
            · exact .inl ⟨rfl, ho, by assumption, id⟩

theorem PDisk.sync_out (D : PDisk) {nm : List UInt8} {f : PFile} (hok : okName nm = true) (hl : D.look nm = some f) :
    (D.sync nm = (D, 4) ∧ D.off = true) ∨ (∃ D', D.sync nm = (D', 4) ∧ D'.files = D.files ∧ D'.off = true ∧ D.fuse = 0) ∨
    (∃ D', D.sync nm = (D', 0) ∧ D'.files = putF D.files { f with sure := f.sure ++ f.loose, loose := [] } ∧ D'.room = D.room ∧ D'.off = false ∧ D.fuse ≠ 0 ∧ D.off = false ∧ (D.fuse = -1 → D'.fuse = -1)) := by
  have e1 : D.ready nm = if D.off then 4 else 0 := by unfold PDisk.ready; rw [if_pos hok]
  cases ho : D.off with
  | true =>
    refine .inl ⟨?_, rfl⟩
    unfold PDisk.sync PDisk.work
    rw [e1, ho]; rfl
  | false =>
    rw [ho] at e1
    have e2 : D.ready nm = 0 := e1
    unfold PDisk.sync PDisk.work
    rw [if_neg (by rw [e2]; decide), hl]
    dsimp only
    unfold PDisk.burn
    by_cases h0 : D.fuse = 0
    · rw [if_pos h0]
      exact .inr (.inl ⟨_, rfl, rfl, rfl, h0⟩)
    · rw [if_neg h0]
      by_cases h1 : 0 < D.fuse
      · rw [if_pos h1]
        exact .inr (.inr ⟨_, rfl, rfl, rfl, ho, h0, rfl, fun h => by omega⟩)
      · rw [if_neg h1]
        exact .inr (.inr ⟨_, rfl, rfl, rfl, ho, h0, rfl, id⟩)

theorem sorted_snoc {l : List PFile} {f : PFile} (h : Sorted (l ++ [f])) : ∀ g ∈ l, g.name < f.name := by
  intro g hg
  exact (List.pairwise_append.1 h).2.2 g hg f (by simp)

theorem filesOf_put_last {name : List UInt8} {D D' : PDisk} {N : Int} (hw : D.WF N) {fs : List PFile} {f f' : PFile} (hF : filesOf name D = fs ++ [f]) (hn : f'.name = f.name) (hD : D'.files = putF D.files f') :
    filesOf name D' = fs ++ [f'] := by
  have hmem : f ∈ filesOf name D := by rw [hF]; simp
  have hown : own name f' = true := by
    have := (filesOf_mem.1 hmem).2
    unfold own at this ⊢
    rw [hn]; exact this
  have hs := filesOf_sorted (name := name) hw.sorted
  rw [hF] at hs
  have h2 : filesOf name D' = putF (filesOf name D) f' := by
    unfold filesOf
    rw [hD]
    exact putF_filter hw.sorted hown
  rw [h2, hF]
  exact putF_snoc (sorted_snoc hs) hn

theorem filesOf_put_new {name : List UInt8} {D D' : PDisk} {N : Int} (hw : D.WF N) {f' : PFile} (hown : own name f' = true) (hn : ∀ g ∈ filesOf name D, g.name < f'.name) (hD : D'.files = putF D.files f') :
    filesOf name D' = filesOf name D ++ [f'] := by
  have h2 : filesOf name D' = putF (filesOf name D) f' := by
    unfold filesOf
    rw [hD]
    exact putF_filter hw.sorted hown
  rw [h2]
  exact putF_last hn

/-- All of a log's names are below the next one's. -/
theorem Inv.names {A : ALog} {D : PDisk} (h : Inv A D) (hne : ∀ s ∈ A.segs, s.base < A.next) : ∀ g ∈ filesOf A.name D, g.name < segName A.name A.next := by
  intro g hg
  have hf := h.files
  have hm : (g.name, g.sure ++ g.loose) ∈ (filesOf A.name D).map (fun f => (f.name, f.sure ++ f.loose)) := List.mem_map.2 ⟨g, hg, rfl⟩
  rw [hf] at hm
  obtain ⟨s, hs, e⟩ := List.mem_map.1 hm
  simp only [Prod.mk.injEq] at e
  rw [← e.1]
  exact segName_lt _ (h.base hs).1 (hne s hs) h.top

theorem ents_of_size {s : ASeg} (h : 1024 ≤ s.size) : s.ents ≠ [] := by
  intro h2
  unfold ASeg.size at h
  rw [h2] at h
  simp [layText] at h

theorem full_below {A : ALog} {D : PDisk} (h : Inv A D) (hl : ∀ s, A.segs.getLast? = some s → 1024 ≤ s.size) : ∀ s ∈ A.segs, s.base < A.next := by
  intro s hs
  have hsz : 1024 ≤ s.size := by
    rcases List.eq_nil_or_concat A.segs with h0 | ⟨a, y, h0⟩
    · rw [h0] at hs; cases hs
    · rw [List.concat_eq_append] at h0
      have h1 := h.full
      rw [h0, List.dropLast_concat] at h1
      rw [h0] at hs
      rcases List.mem_append.1 hs with hs | hs
      · exact h1 s hs
      · simp only [List.mem_singleton] at hs
        subst hs
        exact hl s (by rw [h0]; simp)
  obtain ⟨a, b, hab⟩ := List.append_of_mem hs
  have hc := h.chain
  rw [hab] at hc
  obtain ⟨_, h4, h5, h6⟩ := SChain.app.1 hc
  have h7 := h5.lt (ents_of_size hsz)
  have h8 := (h.base hs).2.2
  have h9 : s.next = endOf s.base s.ents := rfl
  rw [h4] at h9
  omega

/-- What a sync of a log comes to. -/
inductive SyncOut (A : ALog) (D : PDisk) : ALog × PDisk × Int → Prop
  | ok (A' : ALog) (D' : PDisk) (inv : Inv A' D') (name : A'.name = A.name) (segs : A'.segs = A.segs) (e : A'.e = 0) (sure : A'.sure = A.next) (room : D'.room = D.room) (len : D'.files.length = D.files.length) (own : (∀ f ∈ D.files, own A.name f = true) → ∀ f ∈ D'.files, own A.name f = true)
      (off : D.off = false → D'.off = false) (fuse : D.fuse = -1 → D'.fuse = -1) : SyncOut A D (A', D', 0)
  | dark (D' : PDisk) (inv : Inv { A with e := 4 } D') (off : D'.off = true) (was : D.off = true ∨ D.fuse = 0) : SyncOut A D ({ A with e := 4 }, D', 4)

theorem putF_own {name : List UInt8} {l : List PFile} {f : PFile} (hf : own name f = true) (h : ∀ g ∈ l, own name g = true) : ∀ g ∈ putF l f, own name g = true := by
  intro g hg
  rcases putF_names _ _ g hg with rfl | hg
  · exact hf
  · exact h g hg

theorem putF_len_mem {l : List PFile} (h : Sorted l) {f f' : PFile} (hf : f ∈ l) (e : f'.name = f.name) : (putF l f').length = l.length := by
  obtain ⟨a, b, h1, h2⟩ := putF_mem h hf e
  have h3 := congrArg List.length h1
  rw [h2, h3]; simp

/-- Other heads, the same files. -/
theorem Inv.same {A A' : ALog} {D D' : PDisk} (h : Inv A D) (hn : A'.name = A.name) (hs : A'.segs = A.segs) (hu : A'.sure = A.sure) (hf : D'.files = D.files) : Inv A' D' := by
  have h1 : A'.first = A.first := by unfold ALog.first; rw [hs]
  have h2 : A'.next = A.next := by unfold ALog.next; rw [hs]
  have h3 : filesOf A'.name D' = filesOf A.name D := by unfold filesOf; rw [hn, hf]
  exact ⟨by rw [hn]; exact h.name, by rw [h1]; exact h.first, by rw [h2]; exact h.top, by rw [h1, hs]; exact h.chain, by rw [hs]; exact h.full, by rw [h3, hs, hn]; exact h.files, by rw [h3]; exact h.sync, by rw [h3, hs, hu]; exact h.sure, by rw [hs, hu]; exact h.nosegs⟩

theorem Inv.sync_out {A : ALog} {D : PDisk} {N : Int} (h : Inv A D) (hw : D.WF N) (he : A.e = 0) : SyncOut A D (A.sync D) := by
  rcases List.eq_nil_or_concat A.segs with h0 | ⟨a, s, h0⟩
  · unfold ALog.sync
    rw [h0]
    simp only [List.getLast?_nil]
    rw [he]
    refine .ok A D h rfl rfl he ?_ rfl rfl id id id
    rw [h.nosegs h0]; unfold ALog.next; rw [h0]; rfl
  · rw [List.concat_eq_append] at h0
    obtain ⟨fs, f, hF, hfn, ⟨p, q, hpq, h1, h2, h3⟩, hm, hl⟩ := h.last h0
    have hmem : f ∈ filesOf A.name D := by rw [hF]; simp
    have hlook := look_own hw hmem hfn
    have hg : A.segs.getLast? = some s := by rw [h0]; simp
    unfold ALog.sync
    rw [hg]
    dsimp only
    rw [if_neg (by rw [he]; decide)]
    rcases D.sync_out (segName_ok h.name s.base) hlook with ⟨h4, h5⟩ | ⟨D', h4, h5, h6, h7⟩ | ⟨D', h4, h5, h6, h7, h8, h9, h10⟩
    · rw [h4]
      dsimp only
      rw [if_neg (by decide)]
      exact .dark D (h.same rfl rfl rfl rfl) h5 (.inl h5)
    · rw [h4]
      dsimp only
      rw [if_neg (by decide)]
      exact .dark D' (h.same rfl rfl rfl h5) h6 (.inr h7)
    · rw [h4]
      dsimp only
      rw [if_pos rfl]
      have hF' := filesOf_put_last hw (f' := { f with sure := f.sure ++ f.loose, loose := [] }) hF rfl h5
      refine .ok _ D' ⟨h.name, h.first, h.top, h.chain, h.full, ?_, ?_, ?_, ?_⟩ rfl rfl rfl rfl h6 ?_ ?_ (fun _ => h7) h10
      · have := h.files
        show (filesOf A.name D').map _ = _
        rw [hF] at this
        rw [hF', ← this]; simp
      · intro g hg
        have hg : g ∈ (filesOf A.name D').dropLast := hg
        rw [hF', List.dropLast_concat] at hg
        exact hl g hg
      · intro s' f' hs' hf'
        have hf' : (filesOf A.name D').getLast? = some f' := hf'
        have hs' : A.segs.getLast? = some s' := hs'
        rw [hF'] at hf'
        rw [h0] at hs'
        simp only [List.getLast?_append, List.getLast?_singleton, Option.some_or, Option.some.injEq] at hs' hf'
        subst hs' hf'
        refine ⟨s.ents, [], by simp, ?_, by simp [layText], ?_⟩
        · show f.sure ++ f.loose = _
          rw [h1, h2, hpq, layText_app]
        · show A.next = _
          rw [A.next_eq, h0, sEnd_snoc]; rfl
      · intro hz
        have hz : A.segs = [] := hz
        rw [h0] at hz
        simp at hz
      · rw [h5]; exact putF_len_mem hw.sorted (filesOf_mem.1 hmem).1 rfl
      · intro ho
        rw [h5]
        exact putF_own (ho f (filesOf_mem.1 hmem).1) ho
end Go.Proofs.YtgjkjkeeblbjlaaGreatDoor

namespace Go.Proofs.YtgjkjkeeblbjlaaGreatDoor
open Go.RowKit

theorem endOf_prefix {b : Int} {p q : List Ent} (h : Chain b (p ++ q)) : endOf b p ≤ endOf b (p ++ q) ∧ (endOf b p = endOf b (p ++ q) → q = []) := by
  obtain ⟨_, h2⟩ := Chain.app.1 h
  rw [endOf_app]
  refine ⟨h2.le, fun he => ?_⟩
  by_cases hq : q = []
  · exact hq
  · have := h2.lt hq; omega

theorem Inv.sure_le {A : ALog} {D : PDisk} (h : Inv A D) : A.first ≤ A.sure ∧ A.sure ≤ A.next := by
  rcases List.eq_nil_or_concat A.segs with h0 | ⟨a, s, h0⟩
  · rw [h.nosegs h0]; unfold ALog.next ALog.first; rw [h0]; simp
  · rw [List.concat_eq_append] at h0
    obtain ⟨fs, f, _, _, ⟨p, q, h1, _, _, h4⟩, _⟩ := h.last h0
    have hc := h.chain
    rw [h0] at hc
    obtain ⟨c1, c2, c3, _⟩ := SChain.app.1 hc
    rw [← c2] at c3
    rw [h1] at c3
    have h5 := (endOf_prefix c3).1
    have h6 := (Chain.app.1 c3).1.le
    have h7 := c1.le
    have hn : A.next = s.next := by rw [A.next_eq, h0, sEnd_snoc]
    have : s.next = endOf s.base s.ents := rfl
    rw [h1] at this
    omega

theorem all_snoc (A : ALog) {a : List ASeg} {s : ASeg} (h : A.segs = a ++ [s]) : A.all = a.flatMap ASeg.ents ++ s.ents := by unfold ALog.all; rw [h]; simp

/-- More entries in the last segment. -/
theorem Inv.put_last {A A' : ALog} {D D' : PDisk} {N : Int} (h : Inv A D) (hw : D.WF N) {a : List ASeg} {s : ASeg} (hs : A.segs = a ++ [s]) {ents : List Ent} (hch : Chain A.next ents) (hmax : endOf A.next ents ≤ 1099511627776)
    {f : PFile} (hlook : D.look (segName A.name s.base) = some f) (hD : D'.files = putF D.files { f with loose := f.loose ++ layText ents }) (hn : A'.name = A.name) (hs' : A'.segs = a ++ [⟨s.base, s.ents ++ ents⟩]) (hu : A'.sure = A.sure) :
    Inv A' D' ∧ A'.all = A.all ++ ents ∧ A'.next = endOf A.next ents := by
  obtain ⟨fs, g, hF, hfn, ⟨p, q, hpq, h1, h2, h3⟩, hm, hl⟩ := h.last hs
  have hg : g ∈ filesOf A.name D := by rw [hF]; simp
  obtain rfl : f = g := by have := look_own hw hg hfn; rw [hlook] at this; exact Option.some.inj this
  have hF' := filesOf_put_last hw (f' := { f with loose := f.loose ++ layText ents }) hF rfl hD
  have hnx : A.next = s.next := by rw [A.next_eq, hs, sEnd_snoc]
  have hnx' : A'.next = endOf A.next ents := by
    rw [A'.next_eq, hs', sEnd_snoc]
    show endOf s.base (s.ents ++ ents) = _
    rw [endOf_app, hnx]; rfl
  have hfi : A'.first = A.first := first_snoc a s ⟨s.base, s.ents ++ ents⟩ rfl A A' hs hs'
  have hc := h.chain
  rw [hs] at hc
  obtain ⟨c1, c2, c3, _⟩ := SChain.app.1 hc
  rw [← c2] at c3
  refine ⟨⟨by rw [hn]; exact h.name, by rw [hfi]; exact h.first, by rw [hnx']; exact hmax, ?_, ?_, ?_, ?_, ?_, ?_⟩, ?_, hnx'⟩
  · rw [hfi, hs']
    refine SChain.app.2 ⟨c1, c2, ?_, trivial⟩
    rw [← c2]
    refine Chain.app.2 ⟨c3, ?_⟩
    have e : endOf s.base s.ents = A.next := hnx.symm
    rw [e]; exact hch
  · rw [hs', List.dropLast_concat]
    have := h.full
    rw [hs, List.dropLast_concat] at this
    exact this
  · rw [hn, hF', hs', List.map_append, List.map_append, hm]
    simp only [List.map_cons, List.map_nil]
    rw [hfn, h1, h2, hpq, layText_app, layText_app]
    simp
  · rw [hn, hF', List.dropLast_concat]; exact hl
  · intro s' f' hs1 hf1
    rw [hn, hF'] at hf1
    rw [hs'] at hs1
    simp only [List.getLast?_append, List.getLast?_singleton, Option.some_or, Option.some.injEq] at hs1 hf1
    subst hs1 hf1
    refine ⟨p, q ++ ents, by rw [hpq]; simp, h1, ?_, by rw [hu]; exact h3⟩
    show f.loose ++ layText ents = _
    rw [h2, layText_app]
  · intro hz
    rw [hs'] at hz
    simp at hz
  · rw [all_snoc A hs, all_snoc A' hs']; simp

/-- A new segment. -/
theorem Inv.put_new {A A' : ALog} {D D' : PDisk} {N : Int} (h : Inv A D) (hw : D.WF N) (hfull : ∀ s, A.segs.getLast? = some s → 1024 ≤ s.size) (hsure : A.sure = A.next) {ents : List Ent} (hch : Chain A.next ents) (hmax : endOf A.next ents ≤ 1099511627776)
    (hD : D'.files = putF D.files ⟨segName A.name A.next, [], layText ents⟩) (hn : A'.name = A.name) (hs' : A'.segs = A.segs ++ [⟨A.next, ents⟩]) (hu : A'.sure = A.sure) :
    Inv A' D' ∧ A'.all = A.all ++ ents ∧ A'.next = endOf A.next ents := by
  have hlt := full_below h hfull
  have hnm := h.names hlt
  have h0 : 0 ≤ A.next := by have := h.sure_le; have := h.first; omega
  have hF' := filesOf_put_new hw (f' := ⟨segName A.name A.next, [], layText ents⟩) (own_seg A.name h0 h.top _ _) hnm hD
  have hnx' : A'.next = endOf A.next ents := by rw [A'.next_eq, hs', sEnd_snoc]; rfl
  have hfi : A'.first = A.first := by
    unfold ALog.first
    rw [hs']
    cases hs : A.segs with
    | nil => simp [ALog.next, hs]
    | cons y l => rfl
  refine ⟨⟨by rw [hn]; exact h.name, by rw [hfi]; exact h.first, by rw [hnx']; exact hmax, ?_, ?_, ?_, ?_, ?_, ?_⟩, ?_, hnx'⟩
  · rw [hfi, hs']
    exact SChain.app.2 ⟨h.chain, A.next_eq, by rw [← A.next_eq]; exact hch, trivial⟩
  · rw [hs', List.dropLast_concat]
    intro s hs
    rcases List.eq_nil_or_concat A.segs with h9 | ⟨a, y, h9⟩
    · rw [h9] at hs; cases hs
    · rw [List.concat_eq_append] at h9
      have h1 := h.full
      rw [h9, List.dropLast_concat] at h1
      rw [h9] at hs
      rcases List.mem_append.1 hs with hs | hs
      · exact h1 s hs
      · simp only [List.mem_singleton] at hs
        subst hs
        exact hfull s (by rw [h9]; simp)
  · rw [hn, hF', hs', List.map_append, List.map_append, h.files]; simp
  · rw [hn, hF', List.dropLast_concat]
    intro g hg
    rcases List.eq_nil_or_concat A.segs with h9 | ⟨a, y, h9⟩
    · have h8 := h.files
      rw [h9] at h8
      have : filesOf A.name D = [] := by simpa using h8
      rw [this] at hg; cases hg
    · rw [List.concat_eq_append] at h9
      obtain ⟨fs, f, hF, _, ⟨p, q, hpq, h1, h2, h3⟩, _, hl⟩ := h.last h9
      rw [hF] at hg
      rcases List.mem_append.1 hg with hg | hg
      · exact hl g hg
      · simp only [List.mem_singleton] at hg
        subst hg
        have hc := h.chain
        rw [h9] at hc
        obtain ⟨c1, c2, c3, _⟩ := SChain.app.1 hc
        rw [← c2] at c3
        rw [hpq] at c3
        have hn1 : A.next = endOf y.base y.ents := by rw [A.next_eq, h9, sEnd_snoc]; rfl
        have hq := (endOf_prefix c3).2 (by rw [← hpq, ← hn1, ← hsure, h3])
        rw [h2, hq]; rfl
  · intro s' f' hs1 hf1
    rw [hn, hF'] at hf1
    rw [hs'] at hs1
    simp only [List.getLast?_append, List.getLast?_singleton, Option.some_or, Option.some.injEq] at hs1 hf1
    subst hs1 hf1
    exact ⟨[], ents, rfl, rfl, rfl, by rw [hu, hsure]; rfl⟩
  · intro hz
    rw [hs'] at hz
    simp at hz
  · unfold ALog.all; rw [hs']; simp

/-- What an append to a log comes to. -/
inductive AppOut (A : ALog) (D : PDisk) (its : List PItem) : ALog × PDisk × Int × Int → Prop
  | ok (A' : ALog) (D' : PDisk) (inv : Inv A' D') (name : A'.name = A.name) (all : A'.all = A.all ++ mkEnts A.next its) (next : A'.next = endOf A.next (mkEnts A.next its)) (chain : Chain A.next (mkEnts A.next its)) (first : A'.first = A.first) (e : A'.e = 0) (sure : A.sure ≤ A'.sure)
      (own : (∀ f ∈ D.files, own A.name f = true) → ∀ f ∈ D'.files, own A.name f = true) (off : D'.off = false) (fuse : D.fuse = -1 → D'.fuse = -1) (ents : (∀ s ∈ A.segs, s.ents ≠ []) → ∀ s ∈ A'.segs, s.ents ≠ []) : AppOut A D its (A', D', A.next, 0)
  | full (A' : ALog) (D' : PDisk) (inv : Inv A' D') (name : A'.name = A.name) (segs : A'.segs = A.segs) (e : A'.e = 0) (sure : A.sure ≤ A'.sure) (room : D'.room = D.room) (len : D'.files.length = D.files.length)
      (own : (∀ f ∈ D.files, own A.name f = true) → ∀ f ∈ D'.files, own A.name f = true) (off : D'.off = false) (fuse : D.fuse = -1 → D'.fuse = -1) : AppOut A D its (A', D', 0, 5)
  | bad (c : Int) (why : (its = [] ∧ c = 1) ∨ (its ≠ [] ∧ (layAll A.next its []).1 = c ∧ (c = 1 ∨ c = 6))) : AppOut A D its (A, D, 0, c)
  | dark (A' A2 : ALog) (D' : PDisk) (inv : Inv A2 D') (name : A'.name = A.name) (name2 : A2.name = A.name) (segs : A'.segs = A.segs) (sure : A2.sure = A'.sure) (sure' : A.sure ≤ A'.sure) (e : A'.e = 4) (chain : Chain A.next (mkEnts A.next its)) (max : endOf A.next (mkEnts A.next its) ≤ 1099511627776)
      (all : A2.all = A.all ∨ A2.all = A.all ++ mkEnts A.next its) (off : D'.off = true) (was : D.off = true ∨ 0 ≤ D.fuse) (first : A2.first = A.first) : AppOut A D its (A', D', 0, 4)

theorem headBase_mk {b : Int} {its : List PItem} (h : its ≠ []) : headBase (mkEnts b its) = b := by
  cases its with
  | nil => exact absurd rfl h
  | cons x l => rfl

theorem mkEnts_ne {b : Int} {its : List PItem} (h : its ≠ []) : mkEnts b its ≠ [] := by
  cases its with
  | nil => exact absurd rfl h
  | cons x l => simp [mkEnts]

theorem Inv.append_out {A : ALog} {D : PDisk} {N : Int} (h : Inv A D) (hw : D.WF N) (he : A.e = 0) (its : List PItem) : AppOut A D its (A.append D its) := by
  by_cases hne : its = []
  · unfold ALog.append
    rw [if_pos hne]
    exact .bad 1 (.inl ⟨hne, rfl⟩)
  by_cases hla : (layAll A.next its []).1 = 0
  case neg =>
    unfold ALog.append
    rw [if_neg hne, if_neg (by rw [he]; decide), if_pos hla]
    refine .bad _ (.inr ⟨hne, rfl, ?_⟩)
    rcases layAll_err its A.next [] with h1 | h1
    · exact absurd h1 hla
    · exact h1
  obtain ⟨⟨ents, nx⟩, hL⟩ : ∃ r : List Ent × Int, layAll A.next its [] = (0, r.1, r.2) := ⟨(layAll A.next its []).2, by rw [← hla]⟩
  dsimp only at hL
  obtain ⟨h1, h2, h3, h4⟩ := layAll_ok its _ _ _ _ hL
  rw [List.nil_append] at h1
  subst h1
  have hmax : endOf A.next (mkEnts A.next its) ≤ 1099511627776 := by rw [← h2]; exact h4 h.top
  have hdo : A.append D its = A.appendE D (mkEnts A.next its) := by
    unfold ALog.append
    rw [if_neg hne, if_neg (by rw [he]; decide), if_neg (by rw [hla]; decide), hL]
  rw [hdo]
  clear hdo hL
  have hz : ∀ {A0 : ALog}, A0.segs = [] → A0.next = 0 := fun {A0} h9 => by unfold ALog.next; rw [h9]; rfl
  unfold ALog.appendE
  cases ha : A.act with
  | some s =>
    obtain ⟨a, hs, hsz⟩ := A.act_some ha
    obtain ⟨fs, f, hF, hfn, ⟨p, q, hpq, g1, g2, g3⟩, hm, hl⟩ := h.last hs
    have hmem : f ∈ filesOf A.name D := by rw [hF]; simp
    have hlook := look_own hw hmem hfn
    have hfi : ∀ A' : ALog, A'.segs = a ++ [⟨s.base, s.ents ++ mkEnts A.next its⟩] → A'.first = A.first := fun A' hs' => first_snoc a s ⟨s.base, s.ents ++ mkEnts A.next its⟩ rfl A A' hs hs'
    dsimp only
    rw [hs, List.dropLast_concat]
    unfold ALog.put
    dsimp only
    rcases D.append_out (layText (mkEnts A.next its)) (segName_ok h.name s.base) with ⟨h5, h6⟩ | ⟨h5, h6⟩ | ⟨h6, D', e, h5, h7, h8⟩
    · rw [h5]
      dsimp only
      rw [if_neg (by decide), if_pos (by decide)]
      exact .dark _ A D h rfl rfl rfl rfl (Int.le_refl _) rfl h3 hmax (.inl rfl) h6 (.inl h6) rfl
    · rw [h5]
      dsimp only
      rw [if_pos rfl]
      exact .full A D h rfl rfl he (Int.le_refl _) rfl rfl id h6 id
    · rw [h5]
      rw [hlook] at h7
      simp only [Option.getD_some] at h7
      have hown : own A.name f = true := (filesOf_mem.1 hmem).2
      rcases h8 with ⟨rfl, h8, h9, h10⟩ | ⟨rfl, h8, h9⟩
      · dsimp only
        rw [if_neg (by decide), if_neg (by decide), headBase_mk hne]
        obtain ⟨i1, i2, i3⟩ := h.put_last (A' := { A with e := 0, segs := a ++ [⟨s.base, s.ents ++ mkEnts A.next its⟩] }) hw hs h3 hmax hlook h7 rfl rfl rfl
        refine .ok _ D' i1 rfl i2 i3 h3 (hfi _ rfl) rfl (Int.le_refl _) ?_ h8 h10 ?_
        · intro ho
          rw [h7]
          exact putF_own hown ho
        · intro hn s' hs'
          have hs' : s' ∈ a ++ [⟨s.base, s.ents ++ mkEnts A.next its⟩] := hs'
          rcases List.mem_append.1 hs' with hs' | hs'
          · exact hn s' (by rw [hs]; simp [hs'])
          · simp only [List.mem_singleton] at hs'
            subst hs'
            have := mkEnts_ne (b := A.next) hne
            simp [this]
      · dsimp only
        rw [if_neg (by decide), if_pos (by decide)]
        obtain ⟨i1, i2, i3⟩ := h.put_last (A' := { A with e := 0, segs := a ++ [⟨s.base, s.ents ++ mkEnts A.next its⟩] }) hw hs h3 hmax hlook h7 rfl rfl rfl
        exact .dark _ _ D' i1 rfl rfl rfl rfl (Int.le_refl _) rfl h3 hmax (.inr i2) h8 (.inr (by omega)) (hfi _ rfl)
  | none =>
    have hlastfull : ∀ s, A.segs.getLast? = some s → 1024 ≤ s.size := by
      intro s hs
      rcases A.act_none ha with h9 | ⟨a, y, h9, h10⟩
      · rw [h9] at hs; cases hs
      · rw [h9] at hs
        simp only [List.getLast?_append, List.getLast?_singleton, Option.some_or, Option.some.injEq] at hs
        subst hs; exact h10
    -- what the put of a new segment comes to
    have hput : ∀ (B : ALog) (E : PDisk), Inv B E → E.WF N → B.name = A.name → B.segs = A.segs → B.e = 0 → A.sure ≤ B.sure → B.sure = B.next → E.room = D.room → E.files.length = D.files.length →
        ((∀ f ∈ D.files, own A.name f = true) → ∀ f ∈ E.files, own A.name f = true) → (D.fuse = -1 → E.fuse = -1) → (0 ≤ E.fuse ∨ E.off = true → 0 ≤ D.fuse ∨ D.off = true) → AppOut A D its (B.put E ⟨A.next, []⟩ A.segs (mkEnts A.next its)) := by
      intro B E hB hwE hBn hBs hBe hsu hsn hro hle how hfu hwas
      have hBnx : B.next = A.next := by unfold ALog.next; rw [hBs]
      have hn0 : 0 ≤ A.next := by rw [← hBnx]; have := hB.sure_le; have := hB.first; omega
      have hlf : ∀ s, B.segs.getLast? = some s → 1024 ≤ s.size := by rw [hBs]; exact hlastfull
      have hlook : E.look (segName A.name A.next) = none := by
        have h9 := hB.names (full_below hB hlf)
        rw [hBn, hBnx] at h9
        refine look_seg (name := A.name) hn0 h.top (fun f hf e => ?_)
        have := h9 f hf
        rw [e] at this
        exact List.lt_irrefl _ this
      unfold ALog.put
      dsimp only
      rw [List.nil_append]
      have hBsn : segName B.name A.next = segName A.name A.next := by rw [hBn]
      rw [hBsn]
      rcases E.append_out (layText (mkEnts A.next its)) (segName_ok h.name A.next) with ⟨h5, h6⟩ | ⟨h5, h6⟩ | ⟨h6, D', e, h5, h7, h8⟩
      · rw [h5]
        dsimp only
        rw [if_neg (by decide), if_pos (by decide)]
        refine .dark { B with e := 4 } B E hB hBn hBn hBs rfl hsu rfl h3 hmax (.inl ?_) h6 ((hwas (.inr h6)).symm) (by unfold ALog.first; rw [hBs])
        unfold ALog.all; rw [hBs]
      · rw [h5]
        dsimp only
        rw [if_pos rfl]
        exact .full B E hB hBn hBs hBe hsu hro hle how h6 hfu
      · rw [h5]
        rw [hlook] at h7
        simp only [Option.getD_none, List.nil_append] at h7
        obtain ⟨i1, i2, i3⟩ := hB.put_new (A' := { B with e := 0, segs := A.segs ++ [⟨A.next, mkEnts A.next its⟩] }) (ents := mkEnts A.next its) (D' := D') hwE hlf hsn (by rw [hBnx]; exact h3) (by rw [hBnx]; exact hmax) (by rw [hBn, hBnx]; exact h7) rfl (by rw [hBs, hBnx]) rfl
        have hall : B.all = A.all := by unfold ALog.all; rw [hBs]
        rw [hall] at i2
        rw [hBnx] at i3
        rcases h8 with ⟨rfl, h8, h9, h10⟩ | ⟨rfl, h8, h9⟩
        · dsimp only
          rw [if_neg (by decide), if_neg (by decide), headBase_mk hne]
          refine .ok { B with e := 0, segs := A.segs ++ [⟨A.next, mkEnts A.next its⟩] } D' i1 hBn i2 i3 h3 ?_ rfl hsu ?_ h8 (fun h => h10 (hfu h)) ?_
          · unfold ALog.first
            dsimp only
            cases hs : A.segs with
            | nil => simp [hz hs]
            | cons y l => rfl
          · intro ho
            rw [h7]
            exact putF_own (own_seg A.name hn0 h.top _ _) (how ho)
          · intro hn s' hs'
            have hs' : s' ∈ A.segs ++ [⟨A.next, mkEnts A.next its⟩] := hs'
            rcases List.mem_append.1 hs' with hs' | hs'
            · exact hn s' hs'
            · simp only [List.mem_singleton] at hs'
              subst hs'
              exact mkEnts_ne hne
        · dsimp only
          rw [if_neg (by decide), if_pos (by decide)]
          refine .dark { B with e := 4 } { B with e := 0, segs := A.segs ++ [⟨A.next, mkEnts A.next its⟩] } D' i1 hBn hBn hBs rfl hsu rfl h3 hmax (.inr i2) h8 ?_ (by
            unfold ALog.first
            dsimp only
            cases hs : A.segs with
            | nil => simp [hz hs]
            | cons y l => rfl)
          rcases hwas (.inl (by omega)) with h11 | h11
          · exact .inr h11
          · exact .inl h11
    by_cases hse : A.segs = []
    · dsimp only
      rw [if_pos hse]
      have h9 := hput A D h hw rfl rfl he (Int.le_refl _) (by rw [h.nosegs hse, hz hse]) rfl rfl id id id
      rw [hse] at h9
      exact h9
    · dsimp only
      rw [if_neg hse]
      have hso := h.sync_out hw he
      generalize hr : A.sync D = r at hso
      cases hso with
      | ok A' D' inv name segs e sure room len own' off fuse =>
        dsimp only
        rw [if_neg (by decide)]
        refine hput A' D' inv ?_ name segs e ?_ ?_ room len own' fuse ?_
        · have : D' = (A.sync D).2.1 := by rw [hr]
          rw [this]
          unfold ALog.sync
          split
          · exact hw
          · split
            · exact hw
            · exact hw.sync _
        · rw [sure]; exact h.sure_le.2
        · rw [sure]; unfold ALog.next; rw [segs]
        · rintro (h9 | h9)
          · by_cases hf : D.fuse = -1
            · have := fuse hf; omega
            · have := hw.fuse; exact .inl (by omega)
          · cases hoff : D.off with
            | true => exact .inr rfl
            | false => rw [off hoff] at h9; cases h9
      | dark D' inv off was =>
        dsimp only
        rw [if_pos (by decide)]
        refine .dark _ _ D' inv rfl rfl rfl rfl (Int.le_refl _) rfl h3 hmax (.inl rfl) off ?_ rfl
        rcases was with h9 | h9
        · exact .inl h9
        · exact .inr (by omega)
end Go.Proofs.YtgjkjkeeblbjlaaGreatDoor

namespace Go.Proofs.YtgjkjkeeblbjlaaGreatDoor
open Go.RowKit

theorem Chain.mem_le {b : Int} {l : List Ent} (h : Chain b l) {y : Ent} (hy : y ∈ l) : b ≤ y.base ∧ y.base < y.base + y.n ∧ y.base + y.n ≤ endOf b l := by
  induction l generalizing b with
  | nil => cases hy
  | cons x l ih =>
    have hb := h.1
    have hn := h.2.1.2.2.1
    have hle := h.2.2.le
    rw [endOf_cons b x l hb]
    rcases List.mem_cons.1 hy with rfl | hy
    · rw [hb] at *; omega
    · have := ih h.2.2 hy; omega

theorem takeEnt_nil : takeEnt [] = none := by kernel_rfl

theorem rowL_lay {l : List Ent} (hok : ∀ e ∈ l, e.ok) : rowL (layText l) = l.map (fun e => (e.lay.length, e)) := by
  induction l with
  | nil => exact rowL_none takeEnt_nil
  | cons e l ih =>
    rw [layText_cons, rowL_some (takeEnt_lay (hok e (by simp)) _), ih (fun x hx => hok x (by simp [hx]))]
    simp

theorem Inv.read {A : ALog} {D : PDisk} {N : Int} (h : Inv A D) (hw : D.WF N) (ho : D.off = false) {s : ASeg} (hs : s ∈ A.segs) : D.read (segName A.name s.base) = (layText s.ents, 0) := by
  have hf := h.files
  have hm : (segName A.name s.base, layText s.ents) ∈ A.segs.map (fun s => (segName A.name s.base, layText s.ents)) := List.mem_map.2 ⟨s, hs, rfl⟩
  rw [← hf] at hm
  obtain ⟨f, hf1, e⟩ := List.mem_map.1 hm
  simp only [Prod.mk.injEq] at e
  have hl := look_own hw hf1 e.1
  unfold PDisk.read
  have hr : D.ready (segName A.name s.base) = 0 := by unfold PDisk.ready; rw [if_pos (segName_ok h.name _), ho]; rfl
  rw [if_neg (by rw [hr]; decide), hl]
  simp only
  rw [e.2]

theorem Inv.chains {A : ALog} {D : PDisk} (h : Inv A D) {s : ASeg} (hs : s ∈ A.segs) : Chain s.base s.ents := by
  obtain ⟨a, b, hab⟩ := List.append_of_mem hs
  have hc := h.chain
  rw [hab] at hc
  obtain ⟨_, h4, h5, _⟩ := SChain.app.1 hc
  rw [h4]; exact h5

theorem seg_fields (b : Int) (l : List Ent) : (ASeg.seg ⟨b, l⟩).base = b ∧ (ASeg.seg ⟨b, l⟩).bytes = (layText l).length := ⟨seg_base _, seg_bytes _⟩

/-- The place of the last mark that is not behind an offset. -/
theorem from_spec (off : Int) (b : Int) (l : List Ent) (h : Chain b l) : ∃ p q, l = p ++ q ∧ fromL off (ASeg.seg ⟨b, l⟩).marks = (layText p).length ∧ ∀ y ∈ p, y.base + y.n ≤ off := by
  induction l using snoc_ind with
  | h0 => exact ⟨[], [], rfl, rfl, fun y hy => by cases hy⟩
  | hs l e ih =>
    obtain ⟨h1, h2⟩ := Chain.app.1 h
    obtain ⟨p, q, hpq, hf, hp⟩ := ih h1
    have hsn : (ASeg.seg ⟨b, l ++ [e]⟩) = (ASeg.seg ⟨b, l⟩).took e.base e.lay.length := tookAll_snoc _ _ _
    rw [hsn]
    have hold : ∃ p' q', l ++ [e] = p' ++ q' ∧ fromL off (ASeg.seg ⟨b, l⟩).marks = (layText p').length ∧ ∀ y ∈ p', y.base + y.n ≤ off := ⟨p, q ++ [e], by rw [hpq]; simp, hf, hp⟩
    unfold PSeg.took
    dsimp only
    split
    · rw [fromL_snoc]
      split
      · rename_i hle
        refine ⟨l, [e], rfl, ?_, fun y hy => ?_⟩
        · rw [(seg_fields b l).2]
        · have := (h1.mem_le hy).2.2
          have he : e.base = endOf b l := h2.1
          have hle : e.base ≤ off := hle
          omega
      · exact hold
    · exact hold

theorem fetchSeg_spec (off : Int) (most : Nat) : ∀ (l : List (Nat × Ent)) (out : List Ent), out.length < most →
    fetchSeg off most l out = ((out ++ (l.map Prod.snd).filter (fun y => decide (off < y.base + y.n))).take most, decide (most ≤ (out ++ (l.map Prod.snd).filter (fun y => decide (off < y.base + y.n))).length))
  | [], out, h => by
    simp only [fetchSeg, List.map_nil, List.filter_nil, List.append_nil]
    rw [List.take_of_length_le (by omega), decide_eq_false (by omega)]
  | y :: l, out, h => by
    obtain ⟨m, y⟩ := y
    rw [fetchSeg_step]
    by_cases hc : off < y.base + y.n
    · rw [if_pos hc]
      simp only [List.map_cons, List.filter_cons, hc, decide_true, if_true]
      by_cases hl : (out ++ [y]).length = most
      · rw [if_pos hl]
        have e : out ++ y :: (l.map Prod.snd).filter (fun y => decide (off < y.base + y.n)) = (out ++ [y]) ++ (l.map Prod.snd).filter (fun y => decide (off < y.base + y.n)) := by simp
        rw [e, List.take_append_of_le_length (by omega), List.take_of_length_le (by omega), decide_eq_true (by rw [List.length_append]; omega)]
      · rw [if_neg hl, fetchSeg_spec off most l (out ++ [y]) (by rw [List.length_append] at hl ⊢; simp at hl ⊢; omega)]
        simp
    · rw [if_neg hc]
      have hf : decide (off < y.base + y.n) = false := decide_eq_false hc
      simp only [List.map_cons, List.filter_cons, hf]
      rw [if_neg (by omega), fetchSeg_spec off most l out h]
      simp

theorem take_more {α : Type} (a b : List α) (n : Nat) (h : n ≤ a.length) : (a ++ b).take n = a.take n := List.take_append_of_le_length h

theorem fetchAll_spec (D : PDisk) (name : List UInt8) (off : Int) (most : Nat) : ∀ (l : List ASeg) (b : Int) (out : List Ent), SChain b l → (∀ s ∈ l, D.read (segName name s.base) = (layText s.ents, 0)) → out.length < most →
    fetchAll D name off most (l.map ASeg.seg) out = ((out ++ (l.flatMap ASeg.ents).filter (fun y => decide (off < y.base + y.n))).take most, 0)
  | [], b, out, _, _, h => by
    simp only [List.map_nil, fetchAll, List.flatMap_nil, List.filter_nil, List.append_nil]
    rw [List.take_of_length_le (by omega)]
  | s :: l, b, out, hc, hr, h => by
    obtain ⟨rfl, h2, h3⟩ := hc
    simp only [List.map_cons, fetchAll, List.flatMap_cons, List.filter_append]
    split
    · rename_i hsk
      obtain ⟨y, hy, hle⟩ := hsk
      have hn : s.next ≤ off := by
        cases l with
        | nil => simp at hy
        | cons z l =>
          simp only [List.map_cons, List.head?_cons, Option.some.injEq] at hy
          subst hy
          rw [seg_base] at hle
          have := h3.1
          omega
      have hz : s.ents.filter (fun y => decide (off < y.base + y.n)) = [] := by
        rw [List.filter_eq_nil_iff]
        intro y hy
        have := (h2.mem_le hy).2.2
        have e : s.next = endOf s.base s.ents := rfl
        simp; omega
      rw [hz, List.nil_append]
      exact fetchAll_spec D name off most l s.next out h3 (fun x hx => hr x (by simp [hx])) h
    · rw [seg_base, hr s (by simp)]
      simp only [ne_eq, not_true_eq_false, if_false]
      obtain ⟨p, q, hpq, hf, hp⟩ := from_spec off s.base s.ents h2
      have e1 : s.seg = ASeg.seg ⟨s.base, s.ents⟩ := rfl
      have hrow : rowL ((layText s.ents).drop (fromL off s.seg.marks).toNat) = q.map (fun e => (e.lay.length, e)) := by
        rw [e1, hf, hpq, layText_app]
        simp only [Int.toNat_natCast, List.drop_left]
        exact rowL_lay (fun e he => h2.ok e (by rw [hpq]; simp [he]))
      have hfil : s.ents.filter (fun y => decide (off < y.base + y.n)) = q.filter (fun y => decide (off < y.base + y.n)) := by
        rw [hpq, List.filter_append]
        have hz : p.filter (fun y => decide (off < y.base + y.n)) = [] := by
          rw [List.filter_eq_nil_iff]
          intro y hy
          have := hp y hy
          simp; omega
        rw [hz, List.nil_append]
      rw [hrow, fetchSeg_spec off most _ out h, hfil]
      have em : (q.map (fun e => (e.lay.length, e))).map Prod.snd = q := by rw [List.map_map]; simp [Function.comp_def]
      rw [em]
      by_cases hle : most ≤ (out ++ q.filter (fun y => decide (off < y.base + y.n))).length
      · rw [decide_eq_true hle]
        simp only [if_true]
        rw [← List.append_assoc, take_more _ _ _ hle]
      · rw [decide_eq_false hle]
        simp only [Bool.false_eq_true, if_false]
        rw [List.take_of_length_le (by omega), fetchAll_spec D name off most l s.next _ h3 (fun x hx => hr x (by simp [hx])) (by omega), List.append_assoc]

theorem Inv.fetch {A : ALog} {D : PDisk} {N : Int} (h : Inv A D) (hw : D.WF N) (ho : D.off = false) (he : A.e = 0) {off most : Int} (hm : 1 ≤ most ∧ most ≤ 32) (h1 : A.first ≤ off) (h2 : off ≤ A.next) :
    A.toP.fetch D off most = ((A.all.filter (fun y => decide (off < y.base + y.n))).take most.toNat, 0) := by
  unfold PLog.fetch
  have hr : ¬ (off < A.toP.first ∨ A.toP.next < off) := show ¬ (off < A.first ∨ A.next < off) by omega
  rw [if_neg (by omega), if_neg (show ¬ A.toP.e ≠ 0 from fun h => h he), if_neg hr]
  have := fetchAll_spec D A.name off most.toNat A.segs A.first [] h.chain (fun s hs => h.read hw ho hs) (by simp; omega)
  rw [List.nil_append] at this
  exact this

theorem Inv.fetch_pos {A : ALog} {D : PDisk} {N : Int} (h : Inv A D) (hw : D.WF N) (ho : D.off = false) (off : Int) :
    ∀ x ∈ A.toP.segs, (D.read (segName A.toP.name x.base)).2 = 0 → 0 ≤ fromL off x.marks ∧ fromL off x.marks ≤ (D.read (segName A.toP.name x.base)).1.length := by
  intro x hx _
  obtain ⟨s, hs, rfl⟩ := List.mem_map.1 hx
  have e : D.read (segName A.toP.name s.seg.base) = (layText s.ents, 0) := by rw [seg_base]; exact h.read hw ho hs
  rw [e]
  obtain ⟨p, q, hpq, hf, hp⟩ := from_spec off s.base s.ents (h.chains hs)
  have e1 : s.seg = ASeg.seg ⟨s.base, s.ents⟩ := rfl
  rw [e1, hf, hpq, layText_app, List.length_append]
  omega

theorem Inv.all_chain {A : ALog} {D : PDisk} (h : Inv A D) : Chain A.first A.all ∧ endOf A.first A.all = A.next := by
  have := h.chain.all
  rw [A.next_eq]; exact this

/-- What lies behind the k-th entry. -/
theorem filter_drop {b : Int} {l : List Ent} (h : Chain b l) (k : Nat) : l.filter (fun y => decide (endOf b (l.take k) < y.base + y.n)) = l.drop k := by
  have hs : l = l.take k ++ l.drop k := (List.take_append_drop k l).symm
  have hc := h
  rw [hs] at hc
  obtain ⟨h1, h2⟩ := Chain.app.1 hc
  generalize hb : endOf b (l.take k) = B at h2 ⊢
  rw [show l.filter (fun y => decide (B < y.base + y.n)) = (l.take k ++ l.drop k).filter (fun y => decide (B < y.base + y.n)) from by rw [← hs], List.filter_append]
  have e1 : (l.take k).filter (fun y => decide (B < y.base + y.n)) = [] := by
    rw [List.filter_eq_nil_iff]
    intro y hy
    have := (h1.mem_le hy).2.2
    simp; omega
  have e2 : (l.drop k).filter (fun y => decide (B < y.base + y.n)) = l.drop k := by
    rw [List.filter_eq_self]
    intro y hy
    have := (h2.mem_le hy)
    simp; omega
  rw [e1, e2, List.nil_append]
theorem Inv.seg_len {A : ALog} {D : PDisk} {N : Int} (h : Inv A D) (hw : D.WF N) {s : ASeg} (hs : s ∈ A.segs) : (layText s.ents).length ≤ 1048576 := by
  have hf := h.files
  have hm : (segName A.name s.base, layText s.ents) ∈ A.segs.map (fun s => (segName A.name s.base, layText s.ents)) := List.mem_map.2 ⟨s, hs, rfl⟩
  rw [← hf] at hm
  obtain ⟨f, hf1, e⟩ := List.mem_map.1 hm
  simp only [Prod.mk.injEq] at e
  have h2 := hw.fsize (filesOf_mem.1 hf1).1
  rw [← e.2, List.length_append]
  exact h2

end Go.Proofs.YtgjkjkeeblbjlaaGreatDoor

namespace Go.Proofs.YtgjkjkeeblbjlaaGreatDoor
open Go.RowKit

theorem chain_bound {b : Int} {l : List Ent} (h : Chain b l) : endOf b l ≤ b + 64 * l.length := by
  induction l generalizing b with
  | nil => simp [endOf]
  | cons x l ih =>
    rw [endOf_cons b x l h.1]
    have := ih h.2.2
    have := h.2.1.2.2.2.1
    simp only [List.length_cons]
    omega

/-- What is told some at a time. -/
theorem every_spec {A : ALog} {D : PDisk} {N : Int} (h : Inv A D) (hw : D.WF N) (ho : D.off = false) (he : A.e = 0) {most : Int} (hm : 1 ≤ most ∧ most ≤ 32) :
    (∀ k, k < A.all.length → A.toP.fetch D (endOf A.first (A.all.take k)) most = ((A.all.drop k).take most.toNat, 0)) ∧
    (∀ k, k ≤ A.all.length → (endOf A.first (A.all.take k) < A.next ↔ k < A.all.length)) ∧ (∀ k, A.first ≤ endOf A.first (A.all.take k) ∧ endOf A.first (A.all.take k) ≤ A.next) := by
  obtain ⟨hc, hn⟩ := h.all_chain
  have hb : ∀ k, A.first ≤ endOf A.first (A.all.take k) ∧ endOf A.first (A.all.take k) ≤ A.next := by
    intro k
    have hs := List.take_append_drop k A.all
    have hc2 := hc
    rw [← hs] at hc2
    have h1 := (Chain.app.1 hc2).1.le
    have h2 := (endOf_prefix hc2).1
    rw [hs, hn] at h2
    exact ⟨h1, h2⟩
  refine ⟨fun k hk => ?_, fun k hk => ?_, hb⟩
  · rw [h.fetch hw ho he hm (hb k).1 (hb k).2, filter_drop hc k]
  · have hs := List.take_append_drop k A.all
    have hc2 := hc
    rw [← hs] at hc2
    constructor
    · intro hlt
      refine Classical.byContradiction fun hge => ?_
      rw [List.take_of_length_le (by omega), hn] at hlt
      omega
    · intro hlt
      have h1 := (Chain.app.1 hc2).2.lt (by intro h9; have := congrArg List.length h9; simp at this; omega)
      rw [← endOf_app, hs, hn] at h1
      exact h1
end Go.Proofs.YtgjkjkeeblbjlaaGreatDoor
