/-
  Package disk (chapter 4) as plain functions: a disk's files, in the order of names. No conditions.
  Package disk as plain functions: what stays true. No conditions.
  A map with texts as keys, said by its pairs in whatever order: look-up, a new key, the length. No conditions.
  A disk in the memory. No conditions.
  Package disk: the small functions: the walks. Conditions: texts that fit.
  disk.Append: the walk. Conditions: texts that fit.
  disk: work, Sync, Truncate, Read: the walks. Conditions: texts that fit.
  disk: Files, Free, Fuse, Off: the walks. No conditions.
-/
import Derived.Test.YtgjkjkeeblbjlaaGreatDoorGAM
import Derived.Lib.SlTrimSet
import Derived.MapKept
import Derived.RangeFuncRecord
import Derived.BigQuiet
import Derived.Deep.QuietTactic
import Derived.Deep.RegionWith
import Derived.Test.YtgjkjkeeblbjlaaGreatDoorGBM
import Derived.Deep.RegionHeld3
import Derived.Deep.AppendLies
import Derived.Sort.KeysCollected
import Derived.Lib.SmallJoins
set_option maxRecDepth 100000
namespace Go.Proofs.YtgjkjkeeblbjlaaGreatDoor

/-- Blocks of so many bytes. -/
def blk (n : Int) : Int := if (n + 63) / 64 ≤ 1 then 1 else (n + 63) / 64

structure PFile where
  name : List UInt8
  sure : List UInt8
  loose : List UInt8

def PFile.size (f : PFile) : Nat := f.sure.length + f.loose.length

structure PDisk where
  files : List PFile
  room : Int
  fuse : Int
  off : Bool

/-- Letters, digits, '.', '-'. -/
def nameByte (c : UInt8) : Bool := (97 ≤ c.toNat && c.toNat ≤ 122) || (48 ≤ c.toNat && c.toNat ≤ 57) || c.toNat == 46 || c.toNat == 45
/-- May a file have that name? -/
def okName (s : List UInt8) : Bool := !s.isEmpty && decide (s.length ≤ 24) && s.all nameByte

def PDisk.look (D : PDisk) (name : List UInt8) : Option PFile := D.files.find? (fun f => f.name == name)

/-- A file in its place. -/
def putF : List PFile → PFile → List PFile
  | [], f => [f]
  | g :: l, f => if g.name = f.name then f :: l else if g.name < f.name then g :: putF l f else f :: g :: l

/-- Why nothing is done for a name. -/
def PDisk.ready (D : PDisk) (name : List UInt8) : Int := if okName name then (if D.off then 4 else 0) else 1

/-- The fuse. -/
def PDisk.burn (D : PDisk) : PDisk × Bool :=
  if D.fuse = 0 then ({ D with off := true }, false) else if 0 < D.fuse then ({ D with fuse := D.fuse - 1 }, true) else (D, true)

def PDisk.append (D : PDisk) (name s : List UInt8) : PDisk × Int :=
  if D.ready name ≠ 0 then (D, D.ready name)
  else
    let need := match D.look name with | none => blk s.length | some f => blk (f.size + s.length) - blk f.size
    if D.room < need ∨ (D.look name = none ∧ 256 ≤ D.files.length) then (D, 5)
    else
      let f := match D.look name with | none => (⟨name, [], []⟩ : PFile) | some f => f
      let D1 := { D with files := putF D.files { f with loose := f.loose ++ s }, room := D.room - need }
      (D1.burn.1, if D1.burn.2 then 0 else 4)

/-- What the others do first. -/
def PDisk.work (D : PDisk) (name : List UInt8) (act : PDisk → PFile → PDisk) : PDisk × Int :=
  if D.ready name ≠ 0 then (D, D.ready name)
  else match D.look name with
    | none => (D, 3)
    | some f => if D.burn.2 then (act D.burn.1 f, 0) else (D.burn.1, 4)

def PDisk.sync (D : PDisk) (name : List UInt8) : PDisk × Int :=
  D.work name fun D f => { D with files := putF D.files { f with sure := f.sure ++ f.loose, loose := [] } }

def PDisk.truncate (D : PDisk) (name : List UInt8) (n : Int) : PDisk × Int :=
  if D.ready name ≠ 0 then (D, D.ready name)
  else if (∃ f, D.look name = some f ∧ (n < 0 ∨ (f.size : Int) < n)) then (D, 6)
  else D.work name fun D f =>
    let k := min n.toNat f.sure.length
    { D with files := putF D.files { f with sure := f.sure.take k, loose := f.loose.take (n.toNat - k) }, room := D.room + (blk f.size - blk n) }

def PDisk.read (D : PDisk) (name : List UInt8) : List UInt8 × Int :=
  if D.ready name ≠ 0 then ([], D.ready name)
  else match D.look name with
    | none => ([], 3)
    | some f => (f.sure ++ f.loose, 0)

/-- What a crash leaves of the i-th file and those behind it. -/
def crashF (keep : List Int) : Nat → List PFile → List PFile
  | _, [] => []
  | i, f :: l => { f with sure := f.sure ++ f.loose.take (match keep[i]? with | none => 0 | some k => (max 0 (min k f.loose.length)).toNat), loose := [] } :: crashF keep (i + 1) l

def sumBlk (l : List PFile) : Int := (l.map fun f => blk f.size).sum

def PDisk.crash (D : PDisk) (keep : List Int) : PDisk :=
  { files := crashF keep 0 D.files, room := D.room + sumBlk D.files - sumBlk (crashF keep 0 D.files), fuse := -1, off := false }

theorem blk_pos (n : Int) : 1 ≤ blk n := by unfold blk; split <;> omega
theorem blk_le (n : Int) (_h : 0 ≤ n) : n ≤ blk n * 64 := by unfold blk; split <;> omega
theorem blk_mono {a b : Int} (h : a ≤ b) : blk a ≤ blk b := by unfold blk; split <;> split <;> omega

theorem putF_names (l : List PFile) (f : PFile) : ∀ g ∈ putF l f, g = f ∨ g ∈ l := by
  induction l with
  | nil => intro g hg; simp [putF] at hg; exact .inl hg
  | cons h l ih =>
    intro g hg
    rw [putF] at hg
    split at hg
    · simp at hg; rcases hg with rfl | hg
      · exact .inl rfl
      · exact .inr (by simp [hg])
    · split at hg
      · simp at hg; rcases hg with rfl | hg
        · exact .inr (by simp)
        · rcases ih g hg with h1 | h1
          · exact .inl h1
          · exact .inr (by simp [h1])
      · simp at hg; rcases hg with rfl | rfl | hg
        · exact .inl rfl
        · exact .inr (by simp)
        · exact .inr (by simp [hg])

end Go.Proofs.YtgjkjkeeblbjlaaGreatDoor

namespace Go.Proofs.YtgjkjkeeblbjlaaGreatDoor

theorem sumBlk_append (a b : List PFile) : sumBlk (a ++ b) = sumBlk a + sumBlk b := by simp [sumBlk]
theorem sumBlk_cons (f : PFile) (b : List PFile) : sumBlk (f :: b) = blk f.size + sumBlk b := by simp [sumBlk]
theorem sumBlk_nonneg (a : List PFile) : 0 ≤ sumBlk a := by
  induction a with
  | nil => simp [sumBlk]
  | cons f a ih => rw [sumBlk_cons]; have := blk_pos f.size; omega

/-- In the order of names. -/
def Sorted (l : List PFile) : Prop := l.Pairwise fun f g => f.name < g.name

structure PDisk.WF (D : PDisk) (n : Int) : Prop where
  sorted : Sorted D.files
  ok : ∀ f ∈ D.files, okName f.name = true
  count : D.files.length ≤ 256
  room : 0 ≤ D.room
  sum : D.room + sumBlk D.files = n
  size : n ≤ 16384
  fuse : -1 ≤ D.fuse
  fuse' : D.fuse ≤ 9223372036854775807

theorem mem_blk {l : List PFile} {f : PFile} (h : f ∈ l) : blk f.size ≤ sumBlk l := by
  obtain ⟨a, b, rfl⟩ := List.append_of_mem h
  rw [sumBlk_append, sumBlk_cons]
  have := sumBlk_nonneg a
  have := sumBlk_nonneg b
  omega

theorem PDisk.WF.fsize {D : PDisk} {n : Int} (h : D.WF n) {f : PFile} (hf : f ∈ D.files) : f.size ≤ 1048576 := by
  have h1 := mem_blk hf
  have h2 := blk_le f.size (by omega)
  have := h.room
  have := h.sum
  have := h.size
  omega

theorem PDisk.WF.lens {D : PDisk} {n : Int} (h : D.WF n) {f : PFile} (hf : f ∈ D.files) : f.sure.length ≤ 1048576 ∧ f.loose.length ≤ 1048576 := by
  have := h.fsize hf
  unfold PFile.size at this
  omega

theorem lt_tri {a b : List UInt8} (h : ¬ a = b) (h2 : ¬ a < b) : b < a := by
  rcases List.le_total a b with h3 | h3
  · exact Classical.byContradiction fun h4 => h (List.le_antisymm (List.not_lt.1 h4) (List.not_lt.1 h2))
  · exact Classical.byContradiction fun h4 => h (List.le_antisymm (List.not_lt.1 h4) (List.not_lt.1 h2))

theorem Sorted.names {l : List PFile} (h : Sorted l) {f g : PFile} (hf : f ∈ l) (hg : g ∈ l) (e : f.name = g.name) : f = g := by
  induction l with
  | nil => cases hf
  | cons x l ih =>
    have hc := List.pairwise_cons.1 h
    rcases List.mem_cons.1 hf with rfl | hf' <;> rcases List.mem_cons.1 hg with rfl | hg'
    · rfl
    · exact absurd (e ▸ hc.1 _ hg') (List.lt_irrefl _)
    · exact absurd (e ▸ hc.1 _ hf') (List.lt_irrefl _)
    · exact ih hc.2 hf' hg'

theorem putF_mem {l : List PFile} (h : Sorted l) {f f' : PFile} (hf : f ∈ l) (e : f'.name = f.name) : ∃ a b, l = a ++ f :: b ∧ putF l f' = a ++ f' :: b := by
  induction l with
  | nil => cases hf
  | cons g l ih =>
    have hc := List.pairwise_cons.1 h
    rw [putF]
    rcases List.mem_cons.1 hf with rfl | hf'
    · rw [if_pos e.symm]; exact ⟨[], l, rfl, rfl⟩
    · have hlt := hc.1 _ hf'
      rw [if_neg (by rw [e]; intro e2; rw [e2] at hlt; exact List.lt_irrefl _ hlt), if_pos (by rw [e]; exact hlt)]
      obtain ⟨a, b, h1, h2⟩ := ih hc.2 hf'
      exact ⟨g :: a, b, by rw [h1]; rfl, by rw [h2]; rfl⟩

theorem putF_new {l : List PFile} {f : PFile} (hf : ∀ g ∈ l, g.name ≠ f.name) : ∃ a b, l = a ++ b ∧ putF l f = a ++ f :: b := by
  induction l with
  | nil => exact ⟨[], [], rfl, rfl⟩
  | cons g l ih =>
    rw [putF, if_neg (hf g (by simp))]
    split
    · obtain ⟨a, b, h1, h2⟩ := ih (fun x hx => hf x (by simp [hx]))
      exact ⟨g :: a, b, by rw [h1]; rfl, by rw [h2]; rfl⟩
    · exact ⟨[], g :: l, rfl, rfl⟩

theorem putF_sorted {l : List PFile} (h : Sorted l) (f : PFile) : Sorted (putF l f) := by
  induction l with
  | nil => simp [putF, Sorted]
  | cons g l ih =>
    have hc := List.pairwise_cons.1 h
    rw [putF]
    split
    · rename_i e; exact List.pairwise_cons.2 ⟨fun x hx => e ▸ hc.1 x hx, hc.2⟩
    · split
      · rename_i e1 e2
        refine List.pairwise_cons.2 ⟨fun x hx => ?_, ih hc.2⟩
        rcases putF_names l f x hx with rfl | hx
        · exact e2
        · exact hc.1 x hx
      · rename_i e1 e2
        have hlt := lt_tri e1 e2
        refine List.pairwise_cons.2 ⟨fun x hx => ?_, h⟩
        rcases List.mem_cons.1 hx with rfl | hx
        · exact hlt
        · exact List.lt_trans hlt (hc.1 x hx)

theorem PDisk.look_some {D : PDisk} {name : List UInt8} {f : PFile} (h : D.look name = some f) : f ∈ D.files ∧ f.name = name := by
  unfold PDisk.look at h
  exact ⟨List.mem_of_find?_eq_some h, by simpa using List.find?_some h⟩

theorem PDisk.look_none {D : PDisk} {name : List UInt8} (h : D.look name = none) : ∀ f ∈ D.files, f.name ≠ name := by
  unfold PDisk.look at h
  simpa using h

theorem PDisk.look_mem {D : PDisk} {f : PFile} (hs : Sorted D.files) (h : f ∈ D.files) : D.look f.name = some f := by
  cases hl : D.look f.name with
  | none => exact absurd rfl (PDisk.look_none hl f h)
  | some g =>
    obtain ⟨h1, h2⟩ := PDisk.look_some hl
    rw [hs.names h1 h h2]

/-- The files by another one in the place of one. -/
theorem PDisk.WF.put {D : PDisk} {n : Int} (h : D.WF n) {f f' : PFile} (hf : f ∈ D.files) (e : f'.name = f.name) {r : Int} (hr : r = D.room + blk f.size - blk f'.size) (h0 : 0 ≤ r) :
    PDisk.WF { D with files := putF D.files f', room := r } n := by
  obtain ⟨a, b, h1, h2⟩ := putF_mem h.sorted hf e
  refine ⟨putF_sorted h.sorted f', ?_, ?_, h0, ?_, h.size, h.fuse, h.fuse'⟩
  · intro g hg
    rcases putF_names _ _ g hg with rfl | hg
    · rw [e]; exact h.ok _ hf
    · exact h.ok _ hg
  · have := h.count
    rw [h1] at this
    show (putF D.files f').length ≤ 256
    rw [h2]
    simp only [List.length_append, List.length_cons] at this ⊢
    omega
  · have := h.sum
    simp only [h2]
    rw [h1] at this
    rw [sumBlk_append, sumBlk_cons] at this ⊢
    omega

theorem PDisk.WF.new {D : PDisk} {n : Int} (h : D.WF n) {f : PFile} (hf : ∀ g ∈ D.files, g.name ≠ f.name) (hok : okName f.name = true) (hc : D.files.length < 256) {r : Int} (hr : r = D.room - blk f.size) (h0 : 0 ≤ r) :
    PDisk.WF { D with files := putF D.files f, room := r } n := by
  obtain ⟨a, b, h1, h2⟩ := putF_new hf
  refine ⟨putF_sorted h.sorted f, ?_, ?_, h0, ?_, h.size, h.fuse, h.fuse'⟩
  · intro g hg
    rcases putF_names _ _ g hg with rfl | hg
    · exact hok
    · exact h.ok _ hg
  · rw [h1] at hc
    show (putF D.files f).length ≤ 256
    rw [h2]
    simp only [List.length_append, List.length_cons] at hc ⊢
    omega
  · have := h.sum
    simp only [h2]
    rw [h1] at this
    rw [sumBlk_append] at this ⊢
    rw [sumBlk_cons]
    omega

theorem PDisk.WF.burn {D : PDisk} {n : Int} (h : D.WF n) : D.burn.1.WF n := by
  unfold PDisk.burn
  have := h.fuse
  have := h.fuse'
  split
  · exact ⟨h.sorted, h.ok, h.count, h.room, h.sum, h.size, h.fuse, h.fuse'⟩
  · split
    · exact ⟨h.sorted, h.ok, h.count, h.room, h.sum, h.size, by simp only; omega, by simp only; omega⟩
    · exact h

theorem PDisk.burn_files (D : PDisk) : D.burn.1.files = D.files ∧ D.burn.1.room = D.room := by
  unfold PDisk.burn
  split
  · exact ⟨rfl, rfl⟩
  · split <;> exact ⟨rfl, rfl⟩

theorem PDisk.ready_zero {D : PDisk} {name : List UInt8} (h : D.ready name = 0) : okName name = true ∧ D.off = false := by
  unfold PDisk.ready at h
  cases h1 : okName name <;> cases h2 : D.off <;> simp_all

theorem PDisk.WF.append {D : PDisk} {n : Int} (h : D.WF n) (name s : List UInt8) : (D.append name s).1.WF n := by
  unfold PDisk.append
  split
  · exact h
  rename_i hr
  have hr := PDisk.ready_zero (Classical.not_not.1 hr)
  dsimp only
  cases hl : D.look name with
  | none =>
    simp only
    split
    · exact h
    · rename_i hn
      refine PDisk.WF.burn (h.new (f := { name := name, sure := [], loose := [] ++ s }) (PDisk.look_none hl) hr.1 ?_ ?_ ?_)
      · simp only [true_and, not_or] at hn; omega
      · simp [PFile.size]
      · simp only [true_and, not_or] at hn; omega
  | some f =>
    obtain ⟨hf, hnm⟩ := PDisk.look_some hl
    simp only
    split
    · exact h
    · rename_i hn
      refine PDisk.WF.burn (h.put (f' := { f with loose := f.loose ++ s }) hf rfl ?_ ?_)
      · have : PFile.size { f with loose := f.loose ++ s } = f.size + s.length := by simp [PFile.size]; omega
        rw [this]; simp only [Int.natCast_add]; omega
      · have : ¬ D.room < blk (↑f.size + ↑s.length) - blk ↑f.size := fun hx => hn (.inl hx)
        omega

theorem PDisk.WF.work {D : PDisk} {n : Int} (h : D.WF n) (name : List UInt8) (act : PDisk → PFile → PDisk) (hact : ∀ D' f, PDisk.WF D' n → f ∈ D'.files → f.name = name → (act D' f).WF n) : (D.work name act).1.WF n := by
  unfold PDisk.work
  split
  · exact h
  · split
    · exact h
    · rename_i f hf
      obtain ⟨hf, hnm⟩ := PDisk.look_some hf
      split
      · exact hact _ _ h.burn (by rw [(PDisk.burn_files D).1]; exact hf) hnm
      · exact h.burn

theorem PDisk.WF.sync {D : PDisk} {n : Int} (h : D.WF n) (name : List UInt8) : (D.sync name).1.WF n := by
  refine h.work _ _ fun D' f hD hf _ => ?_
  refine hD.put (f' := { f with sure := f.sure ++ f.loose, loose := [] }) hf rfl ?_ hD.room
  simp [PFile.size]

/-- A file's first bytes. -/
def PFile.cut (f : PFile) (n : Nat) : PFile := { f with sure := f.sure.take (min n f.sure.length), loose := f.loose.take (n - min n f.sure.length) }

theorem PFile.cut_size (f : PFile) (n : Nat) (h : n ≤ f.size) : (f.cut n).size = n := by
  unfold PFile.cut PFile.size at *
  simp only [List.length_take]
  omega

theorem PDisk.WF.truncate {D : PDisk} {n : Int} (h : D.WF n) (name : List UInt8) (k : Int) : (D.truncate name k).1.WF n := by
  unfold PDisk.truncate
  split
  · exact h
  split
  · exact h
  · rename_i hr hc
    unfold PDisk.work
    rw [if_neg hr]
    split
    · exact h
    · rename_i f hf
      obtain ⟨hfm, hnm⟩ := PDisk.look_some hf
      split
      · have hk : ¬ (k < 0 ∨ (f.size : Int) < k) := fun hx => hc ⟨f, hf, hx⟩
        have hk1 : k.toNat ≤ f.size := by omega
        have hb := h.burn
        have hfb : f ∈ D.burn.1.files := by rw [(PDisk.burn_files D).1]; exact hfm
        refine hb.put (f' := f.cut k.toNat) hfb rfl ?_ ?_
        · rw [PFile.cut_size f _ hk1]
          have : ((k.toNat : Nat) : Int) = k := by omega
          rw [this]; omega
        · have := hb.room
          have := blk_mono (a := k) (b := f.size) (by omega)
          omega
      · exact h.burn

theorem crashF_len (keep : List Int) (l : List PFile) : ∀ i, (crashF keep i l).length = l.length := by
  induction l with
  | nil => intro i; rfl
  | cons f l ih => intro i; simp [crashF, ih]

theorem crashF_names (keep : List Int) (l : List PFile) : ∀ i, (crashF keep i l).map (·.name) = l.map (·.name) := by
  induction l with
  | nil => intro i; rfl
  | cons f l ih => intro i; simp [crashF, ih]

theorem crashF_le (keep : List Int) (l : List PFile) : ∀ i, sumBlk (crashF keep i l) ≤ sumBlk l := by
  induction l with
  | nil => intro i; simp [crashF]
  | cons f l ih =>
    intro i
    rw [crashF, sumBlk_cons, sumBlk_cons]
    have := ih (i + 1)
    refine Int.add_le_add (blk_mono ?_) this
    simp only [PFile.size, List.length_append, List.length_take, List.length_nil]
    omega

theorem sorted_names (l : List PFile) : Sorted l ↔ (l.map (·.name)).Pairwise (· < ·) := by
  unfold Sorted; rw [List.pairwise_map]

theorem PDisk.WF.crash {D : PDisk} {n : Int} (h : D.WF n) (keep : List Int) : (D.crash keep).WF n := by
  have hl := crashF_le keep D.files 0
  have := h.room
  have := h.sum
  refine ⟨?_, ?_, by simp only [PDisk.crash, crashF_len]; exact h.count, by simp only [PDisk.crash]; omega, by simp only [PDisk.crash]; omega, h.size, by simp [PDisk.crash], by simp [PDisk.crash]⟩
  · simp only [PDisk.crash]; rw [sorted_names, crashF_names, ← sorted_names]; exact h.sorted
  · intro f hf
    simp only [PDisk.crash] at hf
    have : f.name ∈ (crashF keep 0 D.files).map (·.name) := List.mem_map.2 ⟨f, hf, rfl⟩
    rw [crashF_names] at this
    obtain ⟨g, hg, e⟩ := List.mem_map.1 this
    rw [← e]; exact h.ok g hg

end Go.Proofs.YtgjkjkeeblbjlaaGreatDoor

namespace Go.Proofs.YtgjkjkeeblbjlaaGreatDoor
open Go.RowKit Go.MapKept

/-- Block m is a map that holds just these pairs. -/
def MapAt (w : World) (m : Nat) (kvs : List (ByteArray × Value)) : Prop :=
  ∃ es clock, w.heap[m]? = some (.map es clock) ∧ Stamped es clock ∧ (es.toList.map fun e => (e.key, e.val)).Perm (kvs.map fun p => (Value.string p.1, p.2))

theorem MapAt.lt {w : World} {m : Nat} {kvs : List (ByteArray × Value)} (h : MapAt w m kvs) : m < w.heap.size := by
  obtain ⟨es, c, hb, _⟩ := h
  exact (Array.getElem?_eq_some_iff.1 hb).1

theorem MapAt.fr {S : Nat → Prop} {w w' : World} {m : Nat} {kvs : List (ByteArray × Value)} (h : MapAt w m kvs) (hf : Fr S w w') (hn : ¬ S m) : MapAt w' m kvs := by
  have hlt := h.lt
  obtain ⟨es, c, hb, r⟩ := h
  exact ⟨es, c, (hf.block m hlt hn).trans hb, r⟩

theorem MapAt.not_cells {w : World} {m b : Nat} {kvs : List (ByteArray × Value)} {c : Array Value} {T : TypeId} (h : MapAt w m kvs) (hb : Blk w b c T) : b ≠ m := by
  rintro rfl
  obtain ⟨es, c, hm, _⟩ := h
  unfold Blk at hb
  rw [hm] at hb
  cases hb

theorem MapAt.keys {w : World} {m : Nat} {kvs : List (ByteArray × Value)} (h : MapAt w m kvs) : (kvs.map (·.1)).Nodup := by
  obtain ⟨es, c, _, hs, hp⟩ := h
  have h1 := hs.2.2
  have h2 := hp.map Prod.fst
  simp only [List.map_map] at h2
  have h3 : (es.toList.map (·.key)).Nodup ↔ _ := h2.nodup_iff
  have h4 := h3.1 h1
  have e : (Prod.fst ∘ fun p : ByteArray × Value => (Value.string p.1, p.2)) = (fun s => Value.string s) ∘ (·.1) := rfl
  rw [e, ← List.map_map] at h4
  exact (List.pairwise_map.1 h4).imp fun hne e => hne (by rw [e])

theorem isKeys {es : Array MapEntry} {kvs : List (ByteArray × Value)} (hp : (es.toList.map fun e => (e.key, e.val)).Perm (kvs.map fun p => (Value.string p.1, p.2))) : ∀ x ∈ es.toList, IsKey .string x.key := by
  intro x hx
  have : (x.key, x.val) ∈ kvs.map fun p => (Value.string p.1, p.2) := hp.mem_iff.1 (List.mem_map.2 ⟨x, hx, rfl⟩)
  obtain ⟨p, _, e⟩ := List.mem_map.1 this
  simp only [Prod.mk.injEq] at e
  rw [← e.1]; trivial

section
variable {P : Program} {w : World} {T K E : TypeId} {m : Nat} {kvs : List (ByteArray × Value)}

theorem MapAt.look_some (h : MapAt w m kvs) (hT : P.underlying T = some (.map K E)) (hK : P.underlying K = some .string) {k : ByteArray} {v : Value} (hm : (k, v) ∈ kvs) :
    (Instr.lookup T (.map (some m)) (.string k) false).run P w = .ok v w := by
  have hkn := h.keys
  obtain ⟨es, c, hb, hs, hp⟩ := h
  rcases findNow_spec (d := .string) (k := .string k) trivial es.toList 0 (isKeys hp) with ⟨h1, h2⟩ | ⟨j, e, h1, h2, h3⟩
  · exfalso
    have : (Value.string k, v) ∈ es.toList.map fun e => (e.key, e.val) := hp.mem_iff.2 (List.mem_map.2 ⟨_, hm, rfl⟩)
    obtain ⟨x, hx, e⟩ := List.mem_map.1 this
    simp only [Prod.mk.injEq] at e
    exact h2 x hx e.1
  · have hv : e.val = v := by
      have he : e ∈ es.toList := List.mem_of_getElem? h2
      have : (e.key, e.val) ∈ kvs.map fun p => (Value.string p.1, p.2) := hp.mem_iff.1 (List.mem_map.2 ⟨e, he, rfl⟩)
      obtain ⟨p, hpm, e1⟩ := List.mem_map.1 this
      rw [h3] at e1
      simp only [Prod.mk.injEq, Value.string.injEq] at e1
      rw [← e1.2]
      obtain ⟨a, b⟩ := p
      simp only at e1
      obtain ⟨rfl, _⟩ := e1
      have hpw : kvs.Pairwise (fun x y => x.1 ≠ y.1) := by simpa [List.Nodup, List.pairwise_map] using hkn
      rcases List.mem_iff_getElem.1 hpm with ⟨i1, hi1, e1'⟩
      rcases List.mem_iff_getElem.1 hm with ⟨i2, hi2, e2'⟩
      have hi : i1 = i2 := by
        rcases Nat.lt_trichotomy i1 i2 with hlt | heq | hlt
        · have := List.pairwise_iff_getElem.1 hpw i1 i2 hi1 hi2 hlt
          rw [e1', e2'] at this
          exact absurd rfl this
        · exact heq
        · have := List.pairwise_iff_getElem.1 hpw i2 i1 hi2 hi1 hlt
          rw [e1', e2'] at this
          exact absurd rfl this
      subst hi
      rw [e1'] at e2'
      simp only [Prod.mk.injEq] at e2'
      exact e2'.2
    simp [Instr.lookup, run_underlying hT, MapKept.run_getObj_map hb, run_checkKey hK (show IsKey .string (.string k) from trivial), run_findKey hK h1, Result.andThen, hv]

theorem MapAt.look_none (h : MapAt w m kvs) (hT : P.underlying T = some (.map K E)) (hK : P.underlying K = some .string) {k : ByteArray} {z : Value} (hz : (zeroValue E).run P w = .ok z w) (hm : ∀ p ∈ kvs, p.1 ≠ k) :
    (Instr.lookup T (.map (some m)) (.string k) false).run P w = .ok z w := by
  obtain ⟨es, c, hb, hs, hp⟩ := h
  rcases findNow_spec (d := .string) (k := .string k) trivial es.toList 0 (isKeys hp) with ⟨h1, h2⟩ | ⟨j, e, h1, h2, h3⟩
  · simp [Instr.lookup, run_underlying hT, MapKept.run_getObj_map hb, run_checkKey hK (show IsKey .string (.string k) from trivial), run_findKey hK h1, Result.andThen, hz]
  · exfalso
    have he : e ∈ es.toList := List.mem_of_getElem? h2
    have : (e.key, e.val) ∈ kvs.map fun p => (Value.string p.1, p.2) := hp.mem_iff.1 (List.mem_map.2 ⟨e, he, rfl⟩)
    obtain ⟨p, hpm, e1⟩ := List.mem_map.1 this
    rw [h3] at e1
    simp only [Prod.mk.injEq, Value.string.injEq] at e1
    exact hm p hpm e1.1

theorem MapAt.put_new (h : MapAt w m kvs) (hT : P.underlying T = some (.map K E)) (hK : P.underlying K = some .string) {k : ByteArray} (v : Value) (hm : ∀ p ∈ kvs, p.1 ≠ k) :
    ∃ o, (Instr.mapUpdate T (.map (some m)) (.string k) v).run P w = .ok () (w.putObj m o) ∧ MapAt (w.putObj m o) m ((k, v) :: kvs) := by
  have hlt := h.lt
  obtain ⟨es, c, hb, hs, hp⟩ := h
  rcases findNow_spec (d := .string) (k := .string k) trivial es.toList 0 (isKeys hp) with ⟨h1, h2⟩ | ⟨j, e, h1, h2, h3⟩
  · refine ⟨.map (es.push { key := .string k, val := v, born := c }) (c + 1), ?_, ?_⟩
    · simp [Instr.mapUpdate, run_underlying hT, MapKept.run_getObj_map hb, run_checkKey hK (show IsKey .string (.string k) from trivial), run_findKey hK h1, MapKept.run_setObj_map _ hb, Result.andThen, World.putObj]
    · refine ⟨_, _, World.putObj_heap_same hlt, stamped_push hs h2, ?_⟩
      simp only [Array.toList_push, List.map_append, List.map_cons, List.map_nil]
      exact (List.perm_append_comm.trans (List.Perm.cons _ hp))
  · exfalso
    have he : e ∈ es.toList := List.mem_of_getElem? h2
    have : (e.key, e.val) ∈ kvs.map fun p => (Value.string p.1, p.2) := hp.mem_iff.1 (List.mem_map.2 ⟨e, he, rfl⟩)
    obtain ⟨p, hpm, e1⟩ := List.mem_map.1 this
    rw [h3] at e1
    simp only [Prod.mk.injEq, Value.string.injEq] at e1
    exact hm p hpm e1.1

theorem MapAt.made (w : World) : MapAt (w.alloc (.map #[] 0)) w.heap.size [] :=
  ⟨#[], 0, (heap_alloc w _).1, stamped_empty 0, by simp⟩

theorem MapAt.len (h : MapAt w m kvs) (hT : P.underlying T = some (.map K E)) (ty : TypeId) : (Builtin.len_ #[T] ty #[.map (some m)]).run P w = .ok (goInt kvs.length) w := by
  obtain ⟨es, c, hb, hs, hp⟩ := h
  have hl : es.size = kvs.length := by have := hp.length_eq; simpa using this
  simp [Builtin.len_, run_underlying hT, MapKept.run_getObj_map hb, Result.andThen, hl]
end

end Go.Proofs.YtgjkjkeeblbjlaaGreatDoor

namespace Go.Proofs.YtgjkjkeeblbjlaaGreatDoor
open Go.RowKit

def ptr (b : Nat) : Value := .pointer (some ⟨b, 0, none⟩)
def kvOf (x : Nat × PFile) : ByteArray × Value := (bs x.2.name, ptr x.1)

structure DiskRep (w : World) (d m : Nat) (fs : List (Nat × PFile)) (D : PDisk) : Prop where
  hdr : Blk w d #[.map (some m), .int .i64 D.room, .int .i64 D.fuse, .bool D.off] 96
  map : MapAt w m (fs.map kvOf)
  blk : ∀ x ∈ fs, Blk w x.1 #[.string (bs x.2.sure), .string (bs x.2.loose)] 119
  files : fs.map (·.2) = D.files
  nodup : (fs.map (·.1)).Nodup

/-- The blocks of a disk. -/
def foot (d m : Nat) (fs : List (Nat × PFile)) (k : Nat) : Prop := k = d ∨ k = m ∨ k ∈ fs.map (·.1)

def DiskAt (w : World) (d : Nat) (S : Nat → Prop) (D : PDisk) : Prop :=
  ∃ m fs, DiskRep w d m fs D ∧ ∀ k, S k ↔ foot d m fs k

/-- What a disk's function does. -/
def DiskTo (w w' : World) (d : Nat) (S : Nat → Prop) (D' : PDisk) : Prop :=
  ∃ S', DiskAt w' d S' D' ∧ Fr S w w' ∧ ∀ k, S' k → S k ∨ w.heap.size ≤ k

theorem DiskRep.fr {S : Nat → Prop} {w w' : World} {d m : Nat} {fs : List (Nat × PFile)} {D : PDisk} (h : DiskRep w d m fs D) (hf : Fr S w w') (hn : ∀ k, foot d m fs k → ¬ S k) : DiskRep w' d m fs D :=
  ⟨h.hdr.fr hf (hn _ (.inl rfl)), h.map.fr hf (hn _ (.inr (.inl rfl))), fun x hx => (h.blk x hx).fr hf (hn _ (.inr (.inr (List.mem_map.2 ⟨x, hx, rfl⟩)))), h.files, h.nodup⟩

theorem DiskAt.fr {S S0 : Nat → Prop} {w w' : World} {d : Nat} {D : PDisk} (h : DiskAt w d S D) (hf : Fr S0 w w') (hn : ∀ k, S k → ¬ S0 k) : DiskAt w' d S D := by
  obtain ⟨m, fs, h1, h2⟩ := h
  exact ⟨m, fs, h1.fr hf (fun k hk => hn k ((h2 k).2 hk)), h2⟩

theorem DiskRep.foot_lt {w : World} {d m : Nat} {fs : List (Nat × PFile)} {D : PDisk} (h : DiskRep w d m fs D) {k : Nat} (hk : foot d m fs k) : k < w.heap.size := by
  rcases hk with rfl | rfl | hk
  · exact h.hdr.lt
  · exact h.map.lt
  · obtain ⟨x, hx, rfl⟩ := List.mem_map.1 hk
    exact (h.blk x hx).lt

theorem DiskAt.lt {S : Nat → Prop} {w : World} {d : Nat} {D : PDisk} (h : DiskAt w d S D) {k : Nat} (hk : S k) : k < w.heap.size := by
  obtain ⟨m, fs, h1, h2⟩ := h
  exact h1.foot_lt ((h2 k).1 hk)

theorem DiskAt.below {S : Nat → Prop} {w w' : World} {d : Nat} {D : PDisk} (h : DiskAt w d S D) (hb : Below w.heap.size w w') : DiskAt w' d S D :=
  h.fr (S0 := fun _ => False) (Fr.of_below hb) (fun _ _ h => h)

theorem DiskTo.of_below {S : Nat → Prop} {w w' : World} {d : Nat} {D : PDisk} (h : DiskAt w d S D) (hb : Below w.heap.size w w') : DiskTo w w' d S D :=
  ⟨S, h.below hb, Fr.of_below hb, fun _ hk => .inl hk⟩

theorem DiskTo.trans {S : Nat → Prop} {w w1 w2 : World} {d : Nat} {D1 D2 : PDisk} (h : DiskTo w w1 d S D1) (h2 : ∀ S1, DiskAt w1 d S1 D1 → DiskTo w1 w2 d S1 D2) : DiskTo w w2 d S D2 := by
  obtain ⟨S1, a1, f1, s1⟩ := h
  obtain ⟨S2, a2, f2, s2⟩ := h2 S1 a1
  have hsz := f1.size
  refine ⟨S2, a2, ⟨f2.os.trans f1.os, f2.tape.trans f1.tape, f2.output.trans f1.output, Nat.le_trans f1.size f2.size, fun k hk hn => ?_⟩, fun k hk => ?_⟩
  · exact (f2.block k (by omega) (fun h => (s1 k h).elim hn (by omega))).trans (f1.block k hk hn)
  · rcases s2 k hk with h | h
    · exact s1 k h
    · exact .inr (by omega)

/-- The blocks of a disk are of its types: no other value's. -/
theorem DiskAt.other {S : Nat → Prop} {w : World} {d b : Nat} {D : PDisk} (h : DiskAt w d S D) {c : Array Value} {T : TypeId} (hb : Blk w b c T) (h1 : T ≠ 96) (h2 : T ≠ 119) : ¬ S b := by
  obtain ⟨m, fs, hd, hS⟩ := h
  intro hs
  rcases (hS b).1 hs with rfl | rfl | hk
  · exact h1 (hb.inj hd.hdr).2
  · exact hd.map.not_cells hb rfl
  · obtain ⟨x, hx, rfl⟩ := List.mem_map.1 hk
    exact h2 (hb.inj (hd.blk x hx)).2

section
variable {w : World} {d m : Nat} {fs : List (Nat × PFile)} {D : PDisk} (h : DiskRep w d m fs D)
include h

theorem DiskRep.dlt : d < w.heap.size := h.hdr.lt
theorem DiskRep.mlt : m < w.heap.size := h.map.lt
theorem DiskRep.dm : d ≠ m := h.map.not_cells h.hdr
theorem DiskRep.bm {x : Nat × PFile} (hx : x ∈ fs) : x.1 ≠ m := h.map.not_cells (h.blk x hx)
theorem DiskRep.bd {x : Nat × PFile} (hx : x ∈ fs) : x.1 ≠ d := by
  intro e
  have := h.hdr.inj (e ▸ h.blk x hx)
  exact absurd this.2 (by decide)
theorem DiskRep.len : fs.length = D.files.length := by rw [← h.files]; simp

/-- The cells of the header. -/
theorem DiskRep.cells : w.cell? ⟨d, 0, none⟩ = some (.map (some m)) ∧ w.cell? ⟨d, 1, none⟩ = some (.int .i64 D.room) ∧ w.cell? ⟨d, 2, none⟩ = some (.int .i64 D.fuse) ∧ w.cell? ⟨d, 3, none⟩ = some (.bool D.off) ∧
    w.frozen? ⟨d, 0, none⟩ = false ∧ w.frozen? ⟨d, 1, none⟩ = false ∧ w.frozen? ⟨d, 2, none⟩ = false ∧ w.frozen? ⟨d, 3, none⟩ = false :=
  ⟨h.hdr.cell rfl, h.hdr.cell rfl, h.hdr.cell rfl, h.hdr.cell rfl, h.hdr.free 0, h.hdr.free 1, h.hdr.free 2, h.hdr.free 3⟩

theorem DiskRep.mem {f : PFile} (hf : f ∈ D.files) : ∃ b, (b, f) ∈ fs := by
  rw [← h.files] at hf
  obtain ⟨x, hx, rfl⟩ := List.mem_map.1 hf
  exact ⟨x.1, hx⟩

theorem DiskRep.mem' {x : Nat × PFile} (hx : x ∈ fs) : x.2 ∈ D.files := by
  rw [← h.files]; exact List.mem_map.2 ⟨x, hx, rfl⟩

/-- The header with other numbers. -/
theorem DiskRep.set {w' : World} (hf : Fr (fun k => k = d) w w') {r fu : Int} {o : Bool} (hb : Blk w' d #[.map (some m), .int .i64 r, .int .i64 fu, .bool o] 96) :
    DiskRep w' d m fs { D with room := r, fuse := fu, off := o } :=
  ⟨hb, h.map.fr hf h.dm.symm, fun x hx => (h.blk x hx).fr hf (h.bd hx), h.files, h.nodup⟩

/-- Another file in the place of one. -/
theorem DiskRep.put (hs : Sorted D.files) {b : Nat} {f f' : PFile} (hm : (b, f) ∈ fs) (e : f'.name = f.name) {w' : World} (hf : Fr (fun k => k = b) w w')
    (hb : Blk w' b #[.string (bs f'.sure), .string (bs f'.loose)] 119) :
    ∃ fs', DiskRep w' d m fs' { D with files := putF D.files f' } ∧ ∀ k, foot d m fs' k ↔ foot d m fs k := by
  obtain ⟨a, c, h1, h2⟩ := putF_mem hs (h.mem' hm) e
  obtain ⟨l1, l2, h3⟩ := List.append_of_mem hm
  have hns := h.nodup
  have hbm := h.bm hm
  have hbd := h.bd hm
  have hfiles := h.files
  have hmap := h.map
  have hblk := h.blk
  have hhdr := h.hdr
  subst h3
  rw [h1] at hfiles
  simp only [List.map_append, List.map_cons] at hfiles hns
  have hsp : l1.map (·.2) = a ∧ l2.map (·.2) = c := by
    -- the same name stands once
    have hsort : Sorted (a ++ f :: c) := h1 ▸ hs
    have key : ∀ (p q r s : List PFile), p ++ f :: q = r ++ f :: s → Sorted (r ++ f :: s) → p = r ∧ q = s := by
      intro p
      induction p with
      | nil =>
        intro q r s he hso
        cases r with
        | nil => simp at he; exact ⟨rfl, he⟩
        | cons y r =>
          simp only [List.nil_append, List.cons_append, List.cons.injEq] at he
          have := (List.pairwise_cons.1 hso).1 f (by simp)
          rw [← he.1] at this
          exact absurd this (List.lt_irrefl _)
      | cons x p ih =>
        intro q r s he hso
        cases r with
        | nil =>
          simp only [List.nil_append, List.cons_append, List.cons.injEq] at he
          have := (List.pairwise_cons.1 hso).1 f (by rw [← he.2]; simp)
          exact absurd this (List.lt_irrefl _)
        | cons y r =>
          simp only [List.cons_append, List.cons.injEq] at he
          have := ih q r s he.2 (List.pairwise_cons.1 hso).2
          exact ⟨by rw [he.1, this.1], this.2⟩
    exact key _ _ _ _ hfiles hsort
  have hne : ∀ x ∈ l1 ++ l2, x.1 ≠ b := by
    intro x hx
    have hns2 := List.nodup_append.1 hns
    rcases List.mem_append.1 hx with hx | hx
    · exact hns2.2.2 _ (List.mem_map.2 ⟨x, hx, rfl⟩) _ (by simp)
    · intro e
      exact (List.nodup_cons.1 hns2.2.1).1 (by rw [← e]; exact List.mem_map.2 ⟨x, hx, rfl⟩)
  refine ⟨l1 ++ (b, f') :: l2, ⟨hhdr.fr hf (Ne.symm hbd), ?_, ?_, ?_, ?_⟩, ?_⟩
  · have e1 : (l1 ++ (b, f') :: l2).map kvOf = (l1 ++ (b, f) :: l2).map kvOf := by simp [kvOf, e]
    rw [e1]; exact hmap.fr hf (Ne.symm hbm)
  · intro x hx
    rcases List.mem_append.1 hx with hx' | hx'
    · exact (hblk x (by simp [hx'])).fr hf (hne x (by simp [hx']))
    · rcases List.mem_cons.1 hx' with rfl | hx'
      · exact hb
      · exact (hblk x (by simp [hx'])).fr hf (hne x (by simp [hx']))
  · simp only [List.map_append, List.map_cons]
    rw [h2, hsp.1, hsp.2]
  · simpa using hns
  · intro k; simp [foot]

/-- One more file. -/
theorem DiskRep.new {b : Nat} {f : PFile} (hn : ∀ g ∈ D.files, g.name ≠ f.name) {w' : World} (hb0 : ¬ foot d m fs b) (hf : Fr (fun k => k = m ∨ k = b ∨ k = d) w w') {r fu : Int} {o : Bool} (hh : Blk w' d #[.map (some m), .int .i64 r, .int .i64 fu, .bool o] 96) (hmp : MapAt w' m ((bs f.name, ptr b) :: fs.map kvOf))
    (hb : Blk w' b #[.string (bs f.sure), .string (bs f.loose)] 119) :
    ∃ fs', DiskRep w' d m fs' { D with files := putF D.files f, room := r, fuse := fu, off := o } ∧ ∀ k, foot d m fs' k ↔ foot d m fs k ∨ k = b := by
  obtain ⟨a, c, h1, h2⟩ := putF_new hn
  have hfiles := h.files
  rw [h1] at hfiles
  obtain ⟨l1, l2, h3, h4, h5⟩ := List.map_eq_append_iff.1 hfiles
  have hbd := fun x hx => h.bd (x := x) hx
  have hbm := fun x hx => h.bm (x := x) hx
  have hblk := h.blk
  have hns := h.nodup
  clear h
  subst h3
  have hbn : ∀ x ∈ l1 ++ l2, x.1 ≠ b := fun x hx e => hb0 (.inr (.inr (List.mem_map.2 ⟨x, hx, e⟩)))
  refine ⟨l1 ++ (b, f) :: l2, ⟨hh, ?_, ?_, ?_, ?_⟩, ?_⟩
  · obtain ⟨es, ck, m1, m2, m3⟩ := hmp
    refine ⟨es, ck, m1, m2, m3.trans ?_⟩
    refine List.Perm.map _ ?_
    simp only [List.map_append, List.map_cons]
    exact (List.perm_middle (a := kvOf (b, f))).symm
  · intro x hx
    have hx2 : x = (b, f) ∨ x ∈ l1 ++ l2 := by
      rcases List.mem_append.1 hx with h | h
      · exact .inr (by simp [h])
      · rcases List.mem_cons.1 h with h | h
        · exact .inl h
        · exact .inr (by simp [h])
    rcases hx2 with rfl | hx2
    · exact hb
    · refine (hblk x hx2).fr hf ?_
      rintro (e | e | e)
      · exact hbm x hx2 e
      · exact hbn x hx2 e
      · exact hbd x hx2 e
  · simp only [List.map_append, List.map_cons]
    rw [h2, h4, h5]
  · have hp : ((l1 ++ (b, f) :: l2).map (·.1)).Perm (b :: (l1 ++ l2).map (·.1)) := by
      simp only [List.map_append, List.map_cons]; exact List.perm_middle
    rw [hp.nodup_iff]
    refine List.nodup_cons.2 ⟨fun hx => ?_, hns⟩
    obtain ⟨x, hx, e⟩ := List.mem_map.1 hx
    exact hbn x hx e
  · intro k
    simp only [foot, List.map_append, List.map_cons, List.mem_append, List.mem_cons]
    constructor
    · rintro (h | h | h | h | h) <;> simp [h]
    · rintro ((h | h | h | h) | h) <;> simp [h]
end

/-- The empty disk. -/
theorem DiskRep.made {w : World} {d m : Nat} {n : Int} (hd : Blk w d #[.map (some m), .int .i64 n, .int .i64 (-1), .bool false] 96) (hm : MapAt w m []) : DiskRep w d m [] ⟨[], n, -1, false⟩ :=
  ⟨hd, hm, by simp, rfl, by simp⟩

end Go.Proofs.YtgjkjkeeblbjlaaGreatDoor

namespace Go.Proofs.YtgjkjkeeblbjlaaGreatDoor
open Go.RowKit

set_option maxHeartbeats 400000 in
theorem blocks_any (n : Int) (w : World) (h0 : 0 ≤ n) (h1 : n ≤ 140737488355328) :
    Calls Tryz.prog 54 #[.int .i64 n] w fun e w' => e = .returned (.int .i64 (blk n)) ∧ w = w' := by
  have hd : Int.tdiv (n + 63) 64 = (n + 63) / 64 := Int.tdiv_eq_ediv_of_nonneg (by omega)
  have hs : n + 64 - 1 = n + 63 := by omega
  have HB : Hid (blk n = max 1 ((n + 63) / 64)) := by unfold blk; refine hid ?_; split <;> omega
  go_enter Tryz.func54, Tryz.ntmps54
  go_wp2_with fail
  go_ret
  exact ⟨by rw [HB.out]; rfl, rfl⟩

set_option maxHeartbeats 400000 in
theorem size_any (b : Nat) (f : PFile) (w : World) (hb : Blk w b #[.string (bs f.sure), .string (bs f.loose)] 119) (h1 : f.sure.length ≤ 1048576) (h2 : f.loose.length ≤ 1048576) :
    Calls Tryz.prog 55 #[ptr b] w fun e w' => e = .returned (.int .i64 f.size) ∧ ∃ n, w' = w.drewN n := by
  have c0 := hb.cell (i := 0) (v := .string (bs f.sure)) rfl
  have c1 := hb.cell (i := 1) (v := .string (bs f.loose)) rfl
  have e0 : (bs f.sure).size = f.sure.length := rfl
  have e1 : (bs f.loose).size = f.loose.length := rfl
  go_enter Tryz.func55, Tryz.ntmps55
  unfold ptr
  go_wp2_with fail
  go_quiet (fail)
  go_wp2_with fail
  go_ret
  exact ⟨by rw [show ((f.size : Nat) : Int) = (f.sure.length : Int) + f.loose.length from by simp [PFile.size]]; rfl, _, rfl⟩

/-- The bytes that a name may have. -/
def nameSet : List UInt8 := [97, 98, 99, 100, 101, 102, 103, 104, 105, 106, 107, 108, 109, 110, 111, 112, 113, 114, 115, 116, 117, 118, 119, 120, 121, 122, 48, 49, 50, 51, 52, 53, 54, 55, 56, 57, 46, 45]

theorem nameSet_byte : ∀ c : UInt8, nameSet.contains c = nameByte c := by
  intro c
  have h : ∀ n : Fin 256, nameSet.contains (UInt8.ofNat n.val) = nameByte (UInt8.ofNat n.val) := by decide
  have := h ⟨c.toNat, c.toNat_lt⟩
  simpa using this

theorem nameSet_ascii : ∀ (j : Nat) (b : UInt8), nameSet[j]? = some b → b.toNat < 128 := by
  intro j b h
  have : b ∈ nameSet := List.mem_of_getElem? h
  revert this
  have : ∀ c ∈ nameSet, c.toNat < 128 := by decide
  exact this b

theorem dropWhile_nil_iff {p : UInt8 → Bool} : ∀ {l : List UInt8}, l.dropWhile p = [] ↔ ∀ x ∈ l, p x = true
  | [] => by simp
  | a :: l => by
    rw [List.dropWhile_cons]
    cases h : p a with
    | true => simp [h, dropWhile_nil_iff (l := l)]
    | false => simp [h]

theorem trim_all (l cs : List UInt8) : (Lib.trimS l cs = []) ↔ (l.all fun c => cs.contains c) = true := by
  unfold Lib.trimS Lib.trimLeftS Lib.trimRightS
  simp only [dropWhile_nil_iff, List.mem_reverse, List.all_eq_true]
  constructor
  · intro h x hx
    by_cases hm : x ∈ l.reverse.dropWhile (fun b => cs.contains b)
    · exact h x hm
    · have hx2 : x ∈ l.reverse := by simpa using hx
      rw [← List.takeWhile_append_dropWhile (p := fun b => cs.contains b) (l := l.reverse)] at hx2
      rcases List.mem_append.1 hx2 with h3 | h3
      · exact List.all_eq_true.1 (List.all_takeWhile) x h3
      · exact absurd h3 hm
  · intro h x hx
    exact h x (by simpa using List.dropWhile_subset (fun b => cs.contains b) hx)

set_option maxHeartbeats 400000 in
theorem named_any (s : ByteArray) (w : World) (hs : s.size ≤ 1099511627776) :
    Calls Tryz.prog 129 #[.string s] w fun e w' => e = .returned (.bool (okName (tl s))) ∧ Below w.heap.size w w' := by
  have hlen := tl_len s
  have HO : Hid (okName (tl s) = (!(tl s).isEmpty && decide ((tl s).length ≤ 24) && (tl s).all nameByte)) := hid rfl
  by_cases h0 : tl s = []
  · have hne : s.toList.isEmpty = true := by rw [toList_tl, h0]; rfl
    have HF : Hid (okName (tl s) = false) := hid (by rw [HO.out, h0]; rfl)
    clear HO h0
    go_enter Tryz.func129, Tryz.ntmps129
    go_wp2_with fail
    go_ret
    exact ⟨by rw [HF.out]; rfl, Below.refl _ _⟩
  · have hne : s.toList.isEmpty = false := by rw [toList_tl]; simpa using h0
    by_cases h24 : s.size ≤ 24
    · by_cases hall : (tl s).all nameByte = true
      · have HF : Hid (okName (tl s) = true) := hid (by rw [HO.out, hall, hlen]; simp [h0, h24])
        have htr : Lib.trimS (tl s) nameSet = [] := (trim_all _ _).2 (by rw [← hall]; congr 1; funext c; exact nameSet_byte c)
        obtain ⟨r, hr, he⟩ : ∃ r : ByteArray, (⟨(Lib.trimS s.data.toList (bs nameSet).data.toList).toArray⟩ : ByteArray) = r ∧ r.toList.isEmpty = true := ⟨_, rfl, by rw [toList_tl]; show (Lib.trimS (tl s) nameSet).isEmpty = true; simpa using htr⟩
        clear HO htr hall h0
        go_enter Tryz.func129, Tryz.ntmps129
        go_wp2_with fail
        refine (Tryz.strings_Trim s (bs nameSet) _ (by omega) (by decide) nameSet_ascii).mono ?_
        rintro e w1 ⟨rfl, hb⟩
        rw [hr]
        go_wp2_with fail
        go_ret
        exact ⟨by rw [HF.out]; rfl, hb⟩
      · have HF : Hid (okName (tl s) = false) := hid (by rw [HO.out]; simp [hall])
        have htr : ¬ Lib.trimS (tl s) nameSet = [] := fun h => hall (by rw [← (trim_all _ _).1 h]; congr 1; funext c; exact (nameSet_byte c).symm)
        obtain ⟨r, hr, he⟩ : ∃ r : ByteArray, (⟨(Lib.trimS s.data.toList (bs nameSet).data.toList).toArray⟩ : ByteArray) = r ∧ r.toList.isEmpty = false := ⟨_, rfl, by rw [toList_tl]; show (Lib.trimS (tl s) nameSet).isEmpty = false; simpa using htr⟩
        clear HO htr hall h0
        go_enter Tryz.func129, Tryz.ntmps129
        go_wp2_with fail
        refine (Tryz.strings_Trim s (bs nameSet) _ (by omega) (by decide) nameSet_ascii).mono ?_
        rintro e w1 ⟨rfl, hb⟩
        rw [hr]
        go_wp2_with fail
        go_ret
        exact ⟨by rw [HF.out]; rfl, hb⟩
    · have HF : Hid (okName (tl s) = false) := hid (by rw [HO.out, hlen]; simp [h24])
      clear HO h0
      go_enter Tryz.func129, Tryz.ntmps129
      go_wp2_with fail
      go_ret
      exact ⟨by rw [HF.out]; rfl, Below.refl _ _⟩

set_option maxHeartbeats 400000 in
theorem burn_any (d m : Nat) (fs : List (Nat × PFile)) (D : PDisk) (w : World) (h : DiskRep w d m fs D) (h1 : -1 ≤ D.fuse) (h2 : D.fuse ≤ 9223372036854775807) :
    Calls Tryz.prog 118 #[ptr d] w fun e w' => e = .returned (.bool D.burn.2) ∧ DiskRep w' d m fs D.burn.1 ∧ Fr (fun k => k = d) w w' := by
  obtain ⟨c0, c1, c2, c3, f0, f1, f2, f3⟩ := h.cells
  unfold ptr
  by_cases h0 : D.fuse = 0
  · have HF : Hid (D.burn = ({ D with off := true }, false)) := hid (by unfold PDisk.burn; rw [if_pos h0])
    go_enter Tryz.func118, Tryz.ntmps118
    go_wp2_with fail
    go_ret
    rw [HF.out]
    have hf : Fr (fun k => k = d) w (w.setCell ⟨d, 3, none⟩ (.bool true)) := Fr.setCell (S := fun k => k = d) (p := ⟨d, 3, none⟩) (Fr.refl _ w) (.inl rfl) _
    exact ⟨rfl, h.set hf (h.hdr.set 3 _), hf⟩
  · by_cases hp : 0 < D.fuse
    · have HF : Hid (D.burn = ({ D with fuse := D.fuse - 1 }, true)) := hid (by unfold PDisk.burn; rw [if_neg h0, if_pos hp])
      go_enter Tryz.func118, Tryz.ntmps118
      go_wp2_with fail
      go_ret
      rw [HF.out]
      have hf : Fr (fun k => k = d) w (w.setCell ⟨d, 2, none⟩ (.int .i64 (D.fuse - 1))) := Fr.setCell (S := fun k => k = d) (p := ⟨d, 2, none⟩) (Fr.refl _ w) (.inl rfl) _
      exact ⟨rfl, h.set hf (h.hdr.set 2 _), hf⟩
    · have HF : Hid (D.burn = (D, true)) := hid (by unfold PDisk.burn; rw [if_neg h0, if_neg hp])
      go_enter Tryz.func118, Tryz.ntmps118
      go_wp2_with fail
      go_ret
      rw [HF.out]
      exact ⟨rfl, h, Fr.refl _ w⟩

set_option maxHeartbeats 400000 in
theorem ready_any (d m : Nat) (fs : List (Nat × PFile)) (D : PDisk) (g : Nat) (s : List UInt8) (w : World) (h : DiskRep w d m fs D) (hg : w.cell? ⟨g, 0, none⟩ = some (.string (bs s))) (hs : s.length ≤ 1099511627776) :
    Calls Tryz.prog 100 #[ptr d, .slice (some ⟨g, 0, none⟩) 1 1] w fun e w' => e = .returned (.int .i64 (D.ready s)) ∧ Below w.heap.size w w' := by
  obtain ⟨c0, c1, c2, c3, f0, f1, f2, f3⟩ := h.cells
  have hdlt := h.dlt
  have es : (bs s).size = s.length := rfl
  have HR : Hid (D.ready s = if okName s then (if D.off then 4 else 0) else 1) := hid rfl
  unfold ptr
  go_enter Tryz.func100, Tryz.ntmps100
  go_wp2_with fail
  go_loopw [9] (fun a wr => ∃ k : Nat, a = .int .i64 k ∧ Below w.heap.size w wr ∧ ((k = 0 ∧ wr = w) ∨ (k = 1 ∧ okName s = true))) (fun a _ => 1 - (intOf a).toNat)
  case atStart => exact ⟨0, rfl, Below.refl _ _, .inl ⟨rfl, rfl⟩⟩
  case round =>
    obtain ⟨k, rfl, hb, hk⟩ := hrel
    rcases hk with ⟨rfl, rfl⟩ | ⟨rfl, hok⟩
    · cases hok : okName s with
      | true =>
        have HK := hid hok
        clear hok
        go_wp2_with fail
        refine (named_any (bs s) _ (by omega)).mono ?_
        rintro e w1 ⟨rfl, hb1⟩
        rw [tl_bs, HK.out]
        go_wp2_with fail
        go_roundw
        case rel => exact ⟨1, rfl, hb1, .inr ⟨rfl, trivial⟩⟩
        case measure => simp [intOf]
      | false =>
        have HK := hid hok
        clear hok
        go_wp2_with fail
        refine (named_any (bs s) _ (by omega)).mono ?_
        rintro e w1 ⟨rfl, hb1⟩
        rw [tl_bs, HK.out]
        go_wp2_with fail
        go_ret
        refine ⟨?_, hb1⟩
        rw [HR.out, HK.out]; rfl
    · have HK := hid hok
      clear hok
      have c3' : wr.cell? ⟨d, 3, none⟩ = some (.bool D.off) := (hb.cell (p := ⟨d, 3, none⟩) hdlt).trans c3
      cases hoff : D.off with
      | true =>
        rw [hoff] at c3'
        go_wp2_with fail
        go_ret
        refine ⟨?_, hb⟩
        rw [HR.out, HK.out, hoff]; rfl
      | false =>
        rw [hoff] at c3'
        go_wp2_with fail
        go_ret
        refine ⟨?_, hb⟩
        rw [HR.out, HK.out, hoff]; rfl

set_option maxHeartbeats 400000 in
theorem new_any (n : Int) (w : World) (hn : 1 ≤ n ∧ n ≤ 16384) :
    Calls Tryz.prog 36 #[.int .i64 n] w fun e w' => e = .returned (.tuple #[ptr (w.heap.size + 1), .int .i64 0]) ∧ DiskRep w' (w.heap.size + 1) w.heap.size [] ⟨[], n, -1, false⟩ ∧ Below w.heap.size w w' := by
  obtain ⟨h1, h2⟩ := hn
  have hmm := @run_makeMap Tryz.prog
  go_enter Tryz.func36, Tryz.ntmps36
  go_wp2_with fail
  go_ret2
  refine ⟨rfl, DiskRep.made ?_ ?_, bel_alloc (bel_alloc (Below.refl _ _) _) _⟩
  · simpa using Blk.new (w.alloc (.map #[] 0)) #[.map (some w.heap.size), .int .i64 n, .int .i64 (-1), .bool false] 96
  · exact (MapAt.made w).fr ((Fr.refl (fun _ => False) _).alloc _) (fun h => h)

set_option maxHeartbeats 400000 in
theorem new_bad (n : Int) (w : World) (hn : ¬ (1 ≤ n ∧ n ≤ 16384)) :
    Calls Tryz.prog 36 #[.int .i64 n] w fun e w' => e = .returned (.tuple #[.pointer none, .int .i64 1]) ∧ w = w' := by
  by_cases h1 : n < 1
  · clear hn
    go_enter Tryz.func36, Tryz.ntmps36
    go_wp2_with fail
    go_ret2
    exact ⟨rfl, rfl⟩
  · have h2 : 16384 < n := by omega
    clear hn
    go_enter Tryz.func36, Tryz.ntmps36
    go_wp2_with fail
    go_ret2
    exact ⟨rfl, rfl⟩

end Go.Proofs.YtgjkjkeeblbjlaaGreatDoor

namespace Go.Proofs.YtgjkjkeeblbjlaaGreatDoor
open Go.RowKit

theorem bs_ne {a b : List UInt8} (h : a ≠ b) : bs a ≠ bs b := fun e => h (bs_inj e)

theorem file_zero (w : World) : (zeroValue 117).run Tryz.prog w = .ok (.pointer none) w := by rfl

theorem DiskRep.find {w : World} {d m : Nat} {fs : List (Nat × PFile)} {D : PDisk} (h : DiskRep w d m fs D) {b : Nat} {f : PFile} (hm : (b, f) ∈ fs) :
    (Instr.lookup 94 (.map (some m)) (.string (bs f.name)) false).run Tryz.prog w = .ok (ptr b) w :=
  h.map.look_some Tryz.underlying94 Tryz.underlying9 (List.mem_map.2 ⟨_, hm, rfl⟩)

theorem DiskRep.miss {w : World} {d m : Nat} {fs : List (Nat × PFile)} {D : PDisk} (h : DiskRep w d m fs D) {nm : List UInt8} (hn : D.look nm = none) :
    (Instr.lookup 94 (.map (some m)) (.string (bs nm)) false).run Tryz.prog w = .ok (.pointer none) w :=
  h.map.look_none Tryz.underlying94 Tryz.underlying9 (file_zero w) (fun p hp => by
    obtain ⟨x, hx, rfl⟩ := List.mem_map.1 hp
    exact bs_ne (PDisk.look_none hn _ (h.mem' hx)))

/-- The walk's call of ready. -/
theorem ready_at {d m : Nat} {fs : List (Nat × PFile)} {D : PDisk} {w : World} (nm : List UInt8) (h : DiskRep w d m fs D) (hs : nm.length ≤ 1099511627776) :
    Calls Tryz.prog 100 #[.pointer (some ⟨d, 0, none⟩), .slice (some ⟨w.heap.size, 0, none⟩) 1 1] (w.alloc (.cells #[.string (bs nm)] 9)) fun e w' =>
      e = .returned (.int .i64 (D.ready nm)) ∧ DiskRep w' d m fs D ∧ Below w.heap.size w w' := by
  have hf := (Fr.refl (fun _ => False) w).alloc (.cells #[.string (bs nm)] 9)
  refine (ready_any d m fs D w.heap.size nm _ (h.fr hf (fun _ _ h => h)) ((Blk.new _ _ _).cell rfl) hs).mono ?_
  rintro e w1 ⟨rfl, hb⟩
  have hb2 : Below w.heap.size w w1 := ((Below.refl _ w).alloc (Nat.le_refl _) _).trans (hb.mono (by simp))
  exact ⟨rfl, h.fr (Fr.of_below (S := fun _ => False) hb2) (fun _ _ h => h), hb2⟩

theorem DiskRep.drewN {w : World} {d m : Nat} {fs : List (Nat × PFile)} {D : PDisk} (h : DiskRep w d m fs D) (n : Nat) : DiskRep (w.drewN n) d m fs D :=
  h.fr ((Fr.refl (fun _ => False) w).drewN n) (fun _ _ h => h)

theorem DiskRep.below {w w' : World} {d m : Nat} {fs : List (Nat × PFile)} {D : PDisk} (h : DiskRep w d m fs D) (hb : Below w.heap.size w w') : DiskRep w' d m fs D :=
  h.fr (Fr.of_below (S := fun _ => False) hb) (fun _ _ h => h)

theorem blk_ub {n : Int} (h : 0 ≤ n) : blk n ≤ n + 1 := by unfold blk; split <;> omega

theorem PDisk.WF.room_le {D : PDisk} {N : Int} (h : D.WF N) : D.room ≤ 16384 := by
  have := h.sum; have := h.size; have := sumBlk_nonneg D.files; omega

theorem PDisk.append_not {D : PDisk} {nm : List UInt8} (s : List UInt8) (h : ¬ D.ready nm = 0) : D.append nm s = (D, D.ready nm) := by
  unfold PDisk.append; rw [if_pos h]

theorem PDisk.append_old {D : PDisk} {nm : List UInt8} (s : List UInt8) {f : PFile} (h : D.ready nm = 0) (hl : D.look nm = some f) :
    D.append nm s = if D.room < blk (f.size + s.length) - blk f.size then (D, 5) else
      let D1 := { D with files := putF D.files { f with loose := f.loose ++ s }, room := D.room - (blk (f.size + s.length) - blk f.size) }
      (D1.burn.1, if D1.burn.2 then 0 else 4) := by
  unfold PDisk.append; rw [if_neg (by rw [h]; decide), hl]; simp

theorem PDisk.append_new {D : PDisk} {nm : List UInt8} (s : List UInt8) (h : D.ready nm = 0) (hl : D.look nm = none) :
    D.append nm s = if D.room < blk s.length ∨ 256 ≤ D.files.length then (D, 5) else
      let D1 := { D with files := putF D.files { name := nm, sure := [], loose := s }, room := D.room - blk s.length }
      (D1.burn.1, if D1.burn.2 then 0 else 4) := by
  unfold PDisk.append; rw [if_neg (by rw [h]; decide), hl]; simp

/-- What is behind another file's bytes. -/
theorem fr_two {S : Nat → Prop} {w : World} {a b : Addr} {u v : Value} (ha : S a.block) (hb : S b.block) : Fr S w ((w.setCell a u).setCell b v) :=
  Fr.setCell (Fr.setCell (Fr.refl S w) (.inl ha) u) (.inl hb) v

theorem DiskTo.of_rep {w w' : World} {d m : Nat} {fs fs' : List (Nat × PFile)} {D' : PDisk} (h : DiskRep w' d m fs' D') (hf : Fr (foot d m fs) w w') (hk : ∀ k, foot d m fs' k → foot d m fs k ∨ w.heap.size ≤ k) : DiskTo w w' d (foot d m fs) D' :=
  ⟨foot d m fs', ⟨m, fs', h, fun _ => Iff.rfl⟩, hf, hk⟩

set_option maxHeartbeats 1000000 in
theorem append_not {d m : Nat} {fs : List (Nat × PFile)} {D : PDisk} (nm s : List UInt8) {w : World} (h : DiskRep w d m fs D) (h1 : nm.length ≤ 1099511627776) (hr : ¬ D.ready nm = 0) :
    Calls Tryz.prog 93 #[ptr d, .string (bs nm), .string (bs s)] w fun e w' => e = .returned (.int .i64 (D.append nm s).2) ∧ DiskTo w w' d (foot d m fs) (D.append nm s).1 := by
  have HF := hid (PDisk.append_not s hr)
  unfold ptr
  go_enter Tryz.func93, Tryz.ntmps93
  go_wp2_with fail
  refine (ready_at nm h h1).mono ?_
  rintro e w1 ⟨rfl, hd, hbl⟩
  go_wp2_with fail
  go_ret
  rw [HF.out]
  exact ⟨rfl, .of_below ⟨m, fs, h, fun _ => Iff.rfl⟩ hbl⟩

set_option maxHeartbeats 2000000 in
theorem append_old {d m : Nat} {fs : List (Nat × PFile)} {D : PDisk} {N : Int} (s : List UInt8) {f : PFile} {w : World} (h : DiskRep w d m fs D) (hw : D.WF N) (h1 : f.name.length ≤ 1099511627776) (h2 : s.length ≤ 1099511627776) (hr : D.ready f.name = 0) (hf : f ∈ D.files) :
    Calls Tryz.prog 93 #[ptr d, .string (bs f.name), .string (bs s)] w fun e w' => e = .returned (.int .i64 (D.append f.name s).2) ∧ DiskTo w w' d (foot d m fs) (D.append f.name s).1 := by
  have es : (bs s).size = s.length := rfl
  have HF := hid (PDisk.append_old s hr (PDisk.look_mem hw.sorted hf))
  obtain ⟨b, hb⟩ := h.mem hf
  have hsz := hw.fsize hf
  have hR0 := hw.room
  have hR1 := hw.room_le
  obtain ⟨hl1, hl2⟩ := hw.lens hf
  have HW := hid hw
  clear hw
  unfold ptr
  go_enter Tryz.func93, Tryz.ntmps93
  go_wp2_with fail
  refine (ready_at f.name h h1).mono ?_
  rintro e w1 ⟨rfl, hd, hbl⟩
  rw [hr]
  obtain ⟨c0, c1, c2, c3, f0, f1, f2, f3⟩ := hd.cells
  have hlk := hd.find hb
  unfold ptr at hlk
  go_wp2_with fail
  refine (blocks_any _ _ (by omega) (by omega)).mono ?_
  rintro e w2 ⟨rfl, rfl⟩
  go_wp2_with fail
  refine (size_any b f w1 (hd.blk _ hb) hl1 hl2).mono ?_
  rintro e w2 ⟨rfl, n1, rfl⟩
  go_wp2_with fail
  refine (blocks_any _ _ (by omega) (by omega)).mono ?_
  rintro e w2 ⟨rfl, rfl⟩
  go_wp2_with fail
  refine (size_any b f _ ((hd.blk _ hb).drewN n1) hl1 hl2).mono ?_
  rintro e w2 ⟨rfl, n2, rfl⟩
  go_wp2_with fail
  refine (blocks_any _ _ (by omega) (by omega)).mono ?_
  rintro e w2 ⟨rfl, rfl⟩
  have p1 := blk_pos (↑f.size + ↑s.length)
  have p2 := blk_ub (n := (↑f.size + ↑s.length)) (by omega)
  have q1 := blk_pos f.size
  have q2 := blk_ub (n := f.size) (by omega)
  have pq := blk_mono (a := f.size) (b := (↑f.size + ↑s.length)) (by omega)
  have hbd := hd.bd hb
  have HPUT := fun (hR : ¬ D.room < blk (f.size + s.length) - blk f.size) => HW.out.put (f' := { f with loose := f.loose ++ s }) hf rfl (r := D.room - (blk (f.size + s.length) - blk f.size)) (by
    have : PFile.size { f with loose := f.loose ++ s } = f.size + s.length := by simp [PFile.size]; omega
    rw [this]; simp only [Int.natCast_add]; omega) (by omega)
  have HPUT2 := hid HPUT
  clear HPUT
  generalize blk (↑f.size + ↑s.length) = p at HF p1 p2 pq HPUT2 ⊢
  generalize blk ↑f.size = q at HF q1 q2 pq HPUT2 ⊢
  have hbk := (hd.blk _ hb).drewN (n1 + n2)
  by_cases hroom : D.room < p - q
  · go_wp2_with fail
    go_ret
    rw [HF.out, if_pos hroom]
    exact ⟨rfl, .of_below ⟨m, fs, h, fun _ => Iff.rfl⟩ (bel_next hbl (bel_drewN _ _ (n1 + n2)))⟩
  · have hwr := HPUT2.out hroom
    have hbk2 := hbk.other (b' := d) hbd 1 (.int .i64 (D.room - (p - q)))
    have k1 := hbk2.cell (i := 1) (v := .string (bs f.loose)) rfl
    have k2 := hbk2.free 1
    have ec : (bs f.loose).size = f.loose.length := rfl
    have hcat : (bs f.loose).size + (bs s).size ≤ 9223372036854775807 := by omega
    have hcat2 : ¬ 9223372036854775807 < (bs f.loose).size + (bs s).size := by omega
    have HB2 := hid hbk2
    clear hbk2 hbk
    go_wp2_with fail
    obtain ⟨fs1, hrep, hft⟩ := ((hd.drewN (n1 + n2)).set (r := D.room - (p - q)) (fu := D.fuse) (o := D.off) (Fr.setCell (S := fun k => k = d) (p := ⟨d, 1, none⟩) (Fr.refl _ _) (.inl rfl) _) ((hd.drewN (n1 + n2)).hdr.set 1 (.int .i64 (D.room - (p - q))))).put
      (f' := { f with loose := f.loose ++ s }) HW.out.sorted hb rfl (Fr.setCell (S := fun k => k = b) (p := ⟨b, 1, none⟩) (Fr.refl _ _) (.inl rfl) (.string (bs f.loose ++ bs s))) (by
        have := HB2.out.set 1 (.string (bs f.loose ++ bs s))
        rw [bs_append] at this ⊢
        exact this)
    refine (burn_any d m fs1 _ _ hrep hwr.fuse hwr.fuse').mono ?_
    rintro e w2 ⟨rfl, hrep2, hf2⟩
    have hfin : DiskTo w w2 d (foot d m fs) (PDisk.burn { D with files := putF D.files { f with loose := f.loose ++ s }, room := D.room - (p - q) }).1 := by
      refine .of_rep hrep2 ?_ (fun k hk => .inl ((hft k).1 hk))
      refine ((Fr.of_below (bel_next hbl (bel_drewN _ _ (n1 + n2)))).trans (fr_two ?_ ?_)).trans (hf2.mono ?_)
      · exact .inl rfl
      · exact .inr (.inr (List.mem_map.2 ⟨_, hb, rfl⟩))
      · rintro k _ rfl; exact .inl rfl
    have HF2 := hid (show D.append f.name s = _ from HF.out.trans (if_neg (by omega)))
    clear HF HPUT2
    dsimp only at HF2 hfin ⊢
    generalize PDisk.burn { D with files := putF D.files { f with loose := f.loose ++ s }, room := D.room - (p - q) } = bb at *
    have HFIN := hid hfin
    have HWR := hid hwr
    clear hfin hwr hrep hrep2
    cases hb2 : bb.2 with
    | true =>
      go_wp2_with fail
      go_ret
      rw [HF2.out, hb2]
      exact ⟨rfl, HFIN.out⟩
    | false =>
      go_wp2_with fail
      go_ret
      rw [HF2.out, hb2]
      exact ⟨rfl, HFIN.out⟩

set_option maxHeartbeats 2000000 in
theorem append_new {d m : Nat} {fs : List (Nat × PFile)} {D : PDisk} {N : Int} (nm s : List UInt8) {w : World} (h : DiskRep w d m fs D) (hw : D.WF N) (h1 : nm.length ≤ 1099511627776) (h2 : s.length ≤ 1099511627776) (hr : D.ready nm = 0) (hl : D.look nm = none) :
    Calls Tryz.prog 93 #[ptr d, .string (bs nm), .string (bs s)] w fun e w' => e = .returned (.int .i64 (D.append nm s).2) ∧ DiskTo w w' d (foot d m fs) (D.append nm s).1 := by
  have es : (bs s).size = s.length := rfl
  have HF := hid (PDisk.append_new s hr hl)
  have hR0 := hw.room
  have hR1 := hw.room_le
  have hnn := PDisk.look_none hl
  have HN := hid hnn
  have HOK := hid (PDisk.ready_zero hr).1
  have hcount := hw.count
  have HW := hid hw
  clear hw hnn
  unfold ptr
  go_enter Tryz.func93, Tryz.ntmps93
  go_wp2_with fail
  refine (ready_at nm h h1).mono ?_
  rintro e w1 ⟨rfl, hd, hbl⟩
  rw [hr]
  obtain ⟨c0, c1, c2, c3, f0, f1, f2, f3⟩ := hd.cells
  have hlk := hd.miss hl
  have hlen := hd.map.len Tryz.underlying94 3
  rw [List.length_map, hd.len] at hlen
  go_wp2_with fail
  refine (blocks_any _ _ (by omega) (by omega)).mono ?_
  rintro e w2 ⟨rfl, rfl⟩
  have p1 := blk_pos ↑s.length
  have p2 := blk_ub (n := ↑s.length) (by omega)
  have HPUT := hid fun (hR : ¬ (D.room < blk s.length ∨ 256 ≤ D.files.length)) => HW.out.new (f := { name := nm, sure := [], loose := s }) HN.out HOK.out (by omega) (r := D.room - blk s.length) (by simp [PFile.size]) (by omega)
  generalize blk ↑s.length = p at HF p1 p2 HPUT ⊢
  by_cases hroom : D.room < p
  · go_wp2_with fail
    go_ret
    rw [HF.out, if_pos (.inl hroom)]
    exact ⟨rfl, .of_below ⟨m, fs, h, fun _ => Iff.rfl⟩ hbl⟩
  · by_cases hfull : 256 ≤ D.files.length
    · go_wp2_with fail
      go_ret
      rw [HF.out, if_pos (.inr hfull)]
      exact ⟨rfl, .of_below ⟨m, fs, h, fun _ => Iff.rfl⟩ hbl⟩
    · have hwr := HPUT.out (fun h => h.elim hroom hfull)
      have hdm := hd.dm
      have hd2 := hd.fr ((Fr.refl (fun _ => False) w1).alloc (.cells #[.string ⟨#[]⟩, .string ⟨#[]⟩] 119)) (fun _ _ h => h)
      have hb2 := Blk.new w1 #[.string ⟨#[]⟩, .string ⟨#[]⟩] 119
      obtain ⟨o, hmu, hmp⟩ := hd2.map.put_new Tryz.underlying94 Tryz.underlying9 (k := bs nm) (ptr w1.heap.size) (fun p hp => by
        obtain ⟨x, hx, rfl⟩ := List.mem_map.1 hp
        exact bs_ne (HN.out _ (hd.mem' hx)))
      unfold ptr at hmu hmp
      have hnb : ¬ foot d m fs w1.heap.size := fun hk => by have := hd.foot_lt hk; omega
      have hbm : w1.heap.size ≠ m := fun e => hnb (.inr (.inl e))
      have hbd : w1.heap.size ≠ d := fun e => hnb (.inl e)
      generalize hW2 : w1.alloc (.cells #[.string ⟨#[]⟩, .string ⟨#[]⟩] 119) = W2 at *
      obtain ⟨g0, g1, g2, g3, r0, r1, r2, r3⟩ := hd2.cells
      have hfp : Fr (fun k => k = m) W2 (W2.putObj m o) := fr_putObj _ _ _ rfl
      have hh3 := hd2.hdr.fr hfp hdm
      have hb3 := hb2.fr hfp hbm
      have u1 := hh3.cell (i := 1) (v := .int .i64 D.room) rfl
      have u2 := hh3.free 1
      have hb4 := hb3.other (b' := d) hbd 1 (.int .i64 (D.room - p))
      have v1 := hb4.cell (i := 1) (v := .string ⟨#[]⟩) rfl
      have v2 := hb4.free 1
      have hcat : (⟨#[]⟩ : ByteArray).size + (bs s).size ≤ 9223372036854775807 := by show 0 + s.length ≤ _; omega
      have hcat2 : ¬ 9223372036854775807 < (⟨#[]⟩ : ByteArray).size + (bs s).size := by omega
      have HB4 := hid hb4
      have HH3 := hid hh3
      have HMP := hid hmp
      clear hb4 hh3 hb3 hb2 hmp
      go_wp2_with fail
      have hf3 : Fr (fun k => k = m ∨ k = w1.heap.size ∨ k = d) W2 ((W2.putObj m o).setCell ⟨d, 1, none⟩ (.int .i64 (D.room - p))) := Fr.setCell (p := ⟨d, 1, none⟩) (hfp.mono (by rintro k _ rfl; exact .inl rfl)) (.inl (.inr (.inr rfl))) _
      have hf4 : Fr (fun k => k = m ∨ k = w1.heap.size ∨ k = d) W2 (((W2.putObj m o).setCell ⟨d, 1, none⟩ (.int .i64 (D.room - p))).setCell ⟨w1.heap.size, 1, none⟩ (.string (⟨#[]⟩ ++ bs s))) := Fr.setCell (p := ⟨w1.heap.size, 1, none⟩) hf3 (.inl (.inr (.inl rfl))) _
      have hcatb : (⟨#[]⟩ : ByteArray) ++ bs s = bs s := (bs_append [] s)
      obtain ⟨fs1, hrep, hft⟩ := hd2.new (b := w1.heap.size) (f := { name := nm, sure := [], loose := s }) (fun g hg => HN.out g hg) hnb hf4
        ((HH3.out.set 1 (.int .i64 (D.room - p))).other (Ne.symm hbd) 1 _)
        ((HMP.out.fr (Fr.setCell (S := fun k => k = d) (p := ⟨d, 1, none⟩) (Fr.refl _ _) (.inl rfl) (.int .i64 (D.room - p))) (fun e => hdm e.symm)).fr (Fr.setCell (S := fun k => k = w1.heap.size) (p := ⟨w1.heap.size, 1, none⟩) (Fr.refl _ _) (.inl rfl) _) (fun e => hbm e.symm))
        (by
          have := HB4.out.set 1 (.string (⟨#[]⟩ ++ bs s))
          rw [hcatb] at this ⊢
          exact this)
      refine (burn_any d m fs1 _ _ hrep hwr.fuse hwr.fuse').mono ?_
      rintro e w2 ⟨rfl, hrep2, hf2⟩
      have hsz1 := hbl.size
      have hfin : DiskTo w w2 d (foot d m fs) (PDisk.burn { D with files := putF D.files { name := nm, sure := [], loose := s }, room := D.room - p }).1 := by
        refine .of_rep hrep2 ?_ (fun k hk => ?_)
        · have ha : Fr (foot d m fs) w W2 := by rw [← hW2]; exact (Fr.of_below hbl).alloc _
          refine ⟨?_, ?_, ?_, ?_, ?_⟩
          · exact (hf2.os.trans hf4.os).trans ha.os
          · exact (hf2.tape.trans hf4.tape).trans ha.tape
          · exact (hf2.output.trans hf4.output).trans ha.output
          · exact Nat.le_trans (Nat.le_trans ha.size hf4.size) hf2.size
          · intro k hk hn
            have n1 : ¬ k = d := fun e => hn (.inl e)
            have n2 : ¬ k = m := fun e => hn (.inr (.inl e))
            have n3 : ¬ k = w1.heap.size := by omega
            have l1 : k < W2.heap.size := Nat.lt_of_lt_of_le hk ha.size
            exact ((hf2.block k (Nat.lt_of_lt_of_le l1 hf4.size) n1).trans (hf4.block k l1 (by rintro (e | e | e) <;> contradiction))).trans (ha.block k hk hn)
        · rcases (hft k).1 hk with h | h
          · exact .inl h
          · exact .inr (by omega)
      have HF2 := hid (show D.append nm s = _ from HF.out.trans (if_neg (by omega)))
      clear HF HPUT
      dsimp only at HF2 hfin ⊢
      generalize PDisk.burn { D with files := putF D.files { name := nm, sure := [], loose := s }, room := D.room - p } = bb at *
      have HFIN := hid hfin
      clear hfin hwr hrep hrep2
      cases hb2 : bb.2 with
      | true =>
        go_wp2_with fail
        go_ret
        rw [HF2.out, hb2]
        exact ⟨rfl, HFIN.out⟩
      | false =>
        go_wp2_with fail
        go_ret
        rw [HF2.out, hb2]
        exact ⟨rfl, HFIN.out⟩

/-- **Append.** -/
theorem append_any (d : Nat) (S : Nat → Prop) (D : PDisk) (N : Int) (nm s : List UInt8) (w : World) (h : DiskAt w d S D) (hw : D.WF N) (h1 : nm.length ≤ 1099511627776) (h2 : s.length ≤ 1099511627776) :
    Calls Tryz.prog 93 #[ptr d, .string (bs nm), .string (bs s)] w fun e w' => e = .returned (.int .i64 (D.append nm s).2) ∧ DiskTo w w' d S (D.append nm s).1 := by
  obtain ⟨m, fs, hd, hS⟩ := h
  obtain rfl : S = foot d m fs := funext fun k => propext (hS k)
  by_cases hr : D.ready nm = 0
  · cases hl : D.look nm with
    | none => exact append_new nm s hd hw h1 h2 hr hl
    | some f =>
      obtain ⟨hf, rfl⟩ := PDisk.look_some hl
      exact append_old s hd hw h1 h2 hr hf
  · exact append_not nm s hd h1 hr

end Go.Proofs.YtgjkjkeeblbjlaaGreatDoor

namespace Go.Proofs.YtgjkjkeeblbjlaaGreatDoor
open Go.RowKit

theorem PDisk.work_not {D : PDisk} {nm : List UInt8} (act : PDisk → PFile → PDisk) (h : ¬ D.ready nm = 0) : D.work nm act = (D, D.ready nm) := by
  unfold PDisk.work; rw [if_pos h]
theorem PDisk.work_none {D : PDisk} {nm : List UInt8} (act : PDisk → PFile → PDisk) (h : D.ready nm = 0) (hl : D.look nm = none) : D.work nm act = (D, 3) := by
  unfold PDisk.work; rw [if_neg (by rw [h]; decide), hl]
theorem PDisk.work_some {D : PDisk} {nm : List UInt8} (act : PDisk → PFile → PDisk) {f : PFile} (h : D.ready nm = 0) (hl : D.look nm = some f) :
    D.work nm act = if D.burn.2 then (act D.burn.1 f, 0) else (D.burn.1, 4) := by
  unfold PDisk.work; rw [if_neg (by rw [h]; decide), hl]

set_option maxHeartbeats 2000000 in
theorem sync1_any {d m : Nat} {fs : List (Nat × PFile)} {D : PDisk} {N : Int} {b : Nat} {f : PFile} {w : World} (h : DiskRep w d m fs D) (hw : D.WF N) (hb : (b, f) ∈ fs) :
    Calls Tryz.prog 103 #[ptr b] w fun e w' => e = .returned (.int .i64 0) ∧ DiskTo w w' d (foot d m fs) { D with files := putF D.files { f with sure := f.sure ++ f.loose, loose := [] } } := by
  obtain ⟨hl1, hl2⟩ := hw.lens (f := f) (h.mem' hb)
  have hbk := h.blk _ hb
  have c0 := hbk.cell (i := 0) (v := .string (bs f.sure)) rfl
  have c1 := hbk.cell (i := 1) (v := .string (bs f.loose)) rfl
  have e0 := hbk.free 0
  have e1 := hbk.free 1
  have s0 : (bs f.sure).size = f.sure.length := rfl
  have s1 : (bs f.loose).size = f.loose.length := rfl
  have hcat : (bs f.sure).size + (bs f.loose).size ≤ 9223372036854775807 := by omega
  have hcat2 : ¬ 9223372036854775807 < (bs f.sure).size + (bs f.loose).size := by omega
  unfold ptr
  go_enter Tryz.func103, Tryz.ntmps103
  go_wp2_with fail
  go_region
  go_wp2_with fail
  go_ret
  refine ⟨rfl, ?_⟩
  have hfr : Fr (fun k => k = b) w ((w.setCell ⟨b, 0, none⟩ (.string (bs f.sure ++ bs f.loose))).setCell ⟨b, 1, none⟩ (.string ⟨#[]⟩)).drew := (fr_two (S := fun k => k = b) (a := ⟨b, 0, none⟩) (b := ⟨b, 1, none⟩) rfl rfl).drew
  obtain ⟨fs1, hrep, hft⟩ := h.put (f' := { f with sure := f.sure ++ f.loose, loose := [] }) hw.sorted hb rfl hfr (by
    have := ((hbk.set 0 (.string (bs f.sure ++ bs f.loose))).set 1 (.string ⟨#[]⟩)).drew
    rw [bs_append] at this ⊢
    exact this)
  exact .of_rep hrep (hfr.mono (by rintro k _ rfl; exact .inr (.inr (List.mem_map.2 ⟨_, hb, rfl⟩)))) (fun k hk => .inl ((hft k).1 hk))

set_option maxHeartbeats 2000000 in
theorem work_sync {d m : Nat} {fs : List (Nat × PFile)} {D : PDisk} {N : Int} {f : PFile} {w : World} (h : DiskRep w d m fs D) (hw : D.WF N) (h1 : f.name.length ≤ 1099511627776) (hr : D.ready f.name = 0) (hf : f ∈ D.files) :
    Calls Tryz.prog 101 #[ptr d, .string (bs f.name), .func (.func 103) #[] #[]] w fun e w' => e = .returned (.int .i64 (D.work f.name (fun D f => { D with files := putF D.files { f with sure := f.sure ++ f.loose, loose := [] } })).2) ∧ DiskTo w w' d (foot d m fs) (D.work f.name (fun D f => { D with files := putF D.files { f with sure := f.sure ++ f.loose, loose := [] } })).1 := by
  have HF := hid (PDisk.work_some (fun D f => { D with files := putF D.files { f with sure := f.sure ++ f.loose, loose := [] } }) hr (PDisk.look_mem hw.sorted hf))
  obtain ⟨b, hb⟩ := h.mem hf
  have HW := hid hw
  clear hw
  unfold ptr
  go_enter Tryz.func101, Tryz.ntmps101
  go_wp2_with fail
  refine (ready_at f.name h h1).mono ?_
  rintro e w1 ⟨rfl, hd, hbl⟩
  rw [hr]
  obtain ⟨c0, c1, c2, c3, f0, f1, f2, f3⟩ := hd.cells
  have hlk := hd.find hb
  unfold ptr at hlk
  go_wp2_with fail
  refine (burn_any d m fs D _ hd HW.out.fuse HW.out.fuse').mono ?_
  rintro e w2 ⟨rfl, hrep2, hf2⟩
  have hto : DiskTo w w2 d (foot d m fs) D.burn.1 := .of_rep hrep2 ((Fr.of_below hbl).trans (hf2.mono (by rintro k _ rfl; exact .inl rfl))) (fun k hk => .inl hk)
  cases hb2 : D.burn.2 with
  | true =>
    rw [hb2] at HF
    go_wp2_with fail
    refine (sync1_any hrep2 HW.out.burn hb).mono ?_
    rintro e w3 ⟨rfl, hto2⟩
    go_wp2_with fail
    go_ret
    rw [HF.out]
    refine ⟨rfl, ?_⟩
    obtain ⟨S1, a1, r1, s1⟩ := hto
    obtain ⟨S2, a2, r2, s2⟩ := hto2
    have hsz := r1.size
    have hfm : Fr (foot d m fs) w w2 := r1
    exact ⟨S2, a2, hfm.trans r2, fun k hk => (s2 k hk).elim .inl (fun h => .inr (by omega))⟩
  | false =>
    rw [hb2] at HF
    go_wp2_with fail
    go_ret
    rw [HF.out]
    exact ⟨rfl, hto⟩

set_option maxHeartbeats 2000000 in
theorem work_not {d m : Nat} {fs : List (Nat × PFile)} {D : PDisk} {nm : List UInt8} {w : World} (fv : Value) (act : PDisk → PFile → PDisk) (h : DiskRep w d m fs D) (h1 : nm.length ≤ 1099511627776) (hr : ¬ D.ready nm = 0) :
    Calls Tryz.prog 101 #[ptr d, .string (bs nm), fv] w fun e w' => e = .returned (.int .i64 (D.work nm act).2) ∧ DiskTo w w' d (foot d m fs) (D.work nm act).1 := by
  have HF := hid (PDisk.work_not act hr)
  unfold ptr
  go_enter Tryz.func101, Tryz.ntmps101
  go_wp2_with fail
  refine (ready_at nm h h1).mono ?_
  rintro e w1 ⟨rfl, hd, hbl⟩
  go_wp2_with fail
  go_ret
  rw [HF.out]
  exact ⟨rfl, .of_below ⟨m, fs, h, fun _ => Iff.rfl⟩ hbl⟩

set_option maxHeartbeats 2000000 in
theorem work_none {d m : Nat} {fs : List (Nat × PFile)} {D : PDisk} {nm : List UInt8} {w : World} (fv : Value) (act : PDisk → PFile → PDisk) (h : DiskRep w d m fs D) (h1 : nm.length ≤ 1099511627776) (hr : D.ready nm = 0) (hl : D.look nm = none) :
    Calls Tryz.prog 101 #[ptr d, .string (bs nm), fv] w fun e w' => e = .returned (.int .i64 (D.work nm act).2) ∧ DiskTo w w' d (foot d m fs) (D.work nm act).1 := by
  have HF := hid (PDisk.work_none act hr hl)
  unfold ptr
  go_enter Tryz.func101, Tryz.ntmps101
  go_wp2_with fail
  refine (ready_at nm h h1).mono ?_
  rintro e w1 ⟨rfl, hd, hbl⟩
  rw [hr]
  obtain ⟨c0, c1, c2, c3, f0, f1, f2, f3⟩ := hd.cells
  have hlk := hd.miss hl
  go_wp2_with fail
  go_ret
  rw [HF.out]
  exact ⟨rfl, .of_below ⟨m, fs, h, fun _ => Iff.rfl⟩ hbl⟩

/-- **Sync.** -/
theorem sync_any (d : Nat) (S : Nat → Prop) (D : PDisk) (N : Int) (nm : List UInt8) (w : World) (h : DiskAt w d S D) (hw : D.WF N) (h1 : nm.length ≤ 1099511627776) :
    Calls Tryz.prog 70 #[ptr d, .string (bs nm)] w fun e w' => e = .returned (.int .i64 (D.sync nm).2) ∧ DiskTo w w' d S (D.sync nm).1 := by
  obtain ⟨m, fs, hd, hS⟩ := h
  obtain rfl : S = foot d m fs := funext fun k => propext (hS k)
  have key : Calls Tryz.prog 101 #[.pointer (some ⟨d, 0, none⟩), .string (bs nm), .func (.func 103) #[] #[]] w fun e w' => e = .returned (.int .i64 (D.sync nm).2) ∧ DiskTo w w' d (foot d m fs) (D.sync nm).1 := by
    unfold PDisk.sync
    by_cases hr : D.ready nm = 0
    · cases hl : D.look nm with
      | none => exact work_none _ _ hd h1 hr hl
      | some f =>
        obtain ⟨hf, rfl⟩ := PDisk.look_some hl
        exact work_sync hd hw h1 hr hf
    · exact work_not _ _ hd h1 hr
  have HK := hid key
  clear key
  unfold ptr
  go_enter Tryz.func70, Tryz.ntmps70
  go_wp2_with fail
  refine HK.out.mono ?_
  rintro e w1 ⟨rfl, hto⟩
  go_wp2_with fail
  go_ret
  exact ⟨rfl, hto⟩

theorem PDisk.read_not {D : PDisk} {nm : List UInt8} (h : ¬ D.ready nm = 0) : D.read nm = ([], D.ready nm) := by
  unfold PDisk.read; rw [if_pos h]
theorem PDisk.read_none {D : PDisk} {nm : List UInt8} (h : D.ready nm = 0) (hl : D.look nm = none) : D.read nm = ([], 3) := by
  unfold PDisk.read; rw [if_neg (by rw [h]; decide), hl]
theorem PDisk.read_some {D : PDisk} {nm : List UInt8} {f : PFile} (h : D.ready nm = 0) (hl : D.look nm = some f) : D.read nm = (f.sure ++ f.loose, 0) := by
  unfold PDisk.read; rw [if_neg (by rw [h]; decide), hl]

set_option maxHeartbeats 2000000 in
/-- **Read.** -/
theorem read_any (d : Nat) (S : Nat → Prop) (D : PDisk) (N : Int) (nm : List UInt8) (w : World) (h : DiskAt w d S D) (hw : D.WF N) (h1 : nm.length ≤ 1099511627776) :
    Calls Tryz.prog 71 #[ptr d, .string (bs nm)] w fun e w' => e = .returned (.tuple #[.string (bs (D.read nm).1), .int .i64 (D.read nm).2]) ∧ Below w.heap.size w w' := by
  obtain ⟨m, fs, h, hS⟩ := h
  unfold ptr
  by_cases hr : D.ready nm = 0
  · cases hl : D.look nm with
    | none =>
      have HF := hid (PDisk.read_none hr hl)
      go_enter Tryz.func71, Tryz.ntmps71
      go_wp2_with fail
      refine (ready_at nm h h1).mono ?_
      rintro e w1 ⟨rfl, hd, hbl⟩
      rw [hr]
      obtain ⟨c0, c1, c2, c3, f0, f1, f2, f3⟩ := hd.cells
      have hlk := hd.miss hl
      go_wp2_with fail
      go_ret2
      rw [HF.out]
      exact ⟨rfl, hbl⟩
    | some f =>
      have HF := hid (PDisk.read_some hr hl)
      obtain ⟨hf, rfl⟩ := PDisk.look_some hl
      obtain ⟨b, hb⟩ := h.mem hf
      obtain ⟨hl1, hl2⟩ := hw.lens (f := f) hf
      have s0 : (bs f.sure).size = f.sure.length := rfl
      have s1 : (bs f.loose).size = f.loose.length := rfl
      have hcat : (bs f.sure).size + (bs f.loose).size ≤ 9223372036854775807 := by omega
      have hcat2 : ¬ 9223372036854775807 < (bs f.sure).size + (bs f.loose).size := by omega
      clear hw hl
      go_enter Tryz.func71, Tryz.ntmps71
      go_wp2_with fail
      refine (ready_at f.name h h1).mono ?_
      rintro e w1 ⟨rfl, hd, hbl⟩
      rw [hr]
      obtain ⟨c0, c1, c2, c3, f0, f1, f2, f3⟩ := hd.cells
      have hlk := hd.find hb
      unfold ptr at hlk
      have hbk := hd.blk _ hb
      have b0 := hbk.cell (i := 0) (v := .string (bs f.sure)) rfl
      have b1 := hbk.cell (i := 1) (v := .string (bs f.loose)) rfl
      go_wp2_with fail
      go_quiet (fail)
      go_wp2_with fail
      go_ret2
      rw [HF.out, ← bs_append]
      exact ⟨rfl, bel_next hbl (bel_drewN _ _ _)⟩
  · have HF := hid (PDisk.read_not hr)
    go_enter Tryz.func71, Tryz.ntmps71
    go_wp2_with fail
    refine (ready_at nm h h1).mono ?_
    rintro e w1 ⟨rfl, hd, hbl⟩
    go_wp2_with fail
    go_ret2
    rw [HF.out]
    exact ⟨rfl, hbl⟩

end Go.Proofs.YtgjkjkeeblbjlaaGreatDoor

namespace Go.Proofs.YtgjkjkeeblbjlaaGreatDoor
open Go.RowKit Go.Maps

set_option maxHeartbeats 400000 in
theorem off_any (d : Nat) (S : Nat → Prop) (D : PDisk) (w : World) (h : DiskAt w d S D) :
    Calls Tryz.prog 65 #[ptr d] w fun e w' => e = .returned (.bool D.off) ∧ w = w' := by
  obtain ⟨m, fs, h, hS⟩ := h
  obtain ⟨c0, c1, c2, c3, f0, f1, f2, f3⟩ := h.cells
  unfold ptr
  go_enter Tryz.func65, Tryz.ntmps65
  go_wp2_with fail
  go_ret
  exact ⟨rfl, rfl⟩

set_option maxHeartbeats 400000 in
theorem fuse_any (d : Nat) (S : Nat → Prop) (D : PDisk) (n : Int) (w : World) (h : DiskAt w d S D) :
    Calls Tryz.prog 26 #[ptr d, .int .i64 n] w fun e w' => e = .returned (.tuple #[]) ∧ DiskTo w w' d S { D with fuse := max n (-1) } := by
  obtain ⟨m, fs, h, hS⟩ := h
  obtain rfl : S = foot d m fs := funext fun k => propext (hS k)
  obtain ⟨c0, c1, c2, c3, f0, f1, f2, f3⟩ := h.cells
  unfold ptr
  go_enter Tryz.func26, Tryz.ntmps26
  go_wp2_with fail
  have hf : Fr (fun k => k = d) w (w.setCell ⟨d, 2, none⟩ (.int .i64 (max n (-1)))) := Fr.setCell (S := fun k => k = d) (p := ⟨d, 2, none⟩) (Fr.refl _ _) (.inl rfl) _
  refine ⟨rfl, .tuple #[], by simp [results, Tryz.results26, go_sem], rfl, .of_rep (h.set hf (h.hdr.set 2 _)) (hf.mono (by rintro k _ rfl; exact .inl rfl)) (fun k hk => .inl hk)⟩

theorem MapAt.own {w : World} {m : Nat} {kvs : List (ByteArray × Value)} (h : MapAt w m kvs) (h1 : kvs.length ≤ 256) (h2 : ∀ p ∈ kvs, p.1.size ≤ maxLen) :
    ∃ D0 : DataW Unit, w.ownsMap Tryz.prog 9 (fun _ => some (.nil, [])) m 256 D0 ∧ Maps.size D0 = kvs.length ∧ (strKeys D0).Perm (kvs.map fun p => tl p.1) := by
  obtain ⟨es, c, hb, hs, hp⟩ := h
  have hl : es.size = kvs.length := by have := hp.length_eq; simpa using this
  have hrd : ∀ x ∈ es.toList, ∃ p ∈ kvs, x.key = .string p.1 ∧ WideElems.rd (H := Unit) Tryz.prog 9 (fun _ => some (.nil, [])) x = some (.string (tl p.1), .nil) := by
    intro x hx
    have : (x.key, x.val) ∈ kvs.map fun p => (Value.string p.1, p.2) := hp.mem_iff.1 (List.mem_map.2 ⟨x, hx, rfl⟩)
    obtain ⟨p, hpm, e⟩ := List.mem_map.1 this
    simp only [Prod.mk.injEq] at e
    refine ⟨p, hpm, e.1.symm, ?_⟩
    have hk : keyOf Tryz.prog 9 x.key = some (.string (tl p.1)) := by
      rw [← e.1]
      have hsz := h2 p hpm
      simp [keyOf, Tryz.underlying9, mapKey, hsz, tl]
    simp [WideElems.rd, hk]
  refine ⟨_, ⟨es, c, hb, ⟨by rw [hl]; unfold maxLen; omega, hs, fun x hx => let ⟨p, _, _, e⟩ := hrd x hx; ⟨_, e⟩⟩, by omega, rfl⟩, ?_, ?_⟩
  · simp only [Maps.size, length_sorted, List.length_map, Array.length_toList]; exact hl
  · show (((es.toList.map _).foldr DataW.insert []).map fun p => strOf p.1).Perm _
    refine ((WideShapes.sorted_perm _).map _).trans ?_
    rw [List.map_map]
    have e1 : es.toList.map ((fun p : Lit × DataW Unit => strOf p.1) ∘ WideElems.rg Tryz.prog 9 (fun _ => some (.nil, []))) = (es.toList.map fun e => (e.key, e.val)).map (fun q => match q.1 with | .string s => tl s | _ => []) := by
      rw [List.map_map]
      refine List.map_congr_left fun x hx => ?_
      obtain ⟨p, _, e, hr⟩ := hrd x hx
      simp only [Function.comp, WideElems.rg, hr, Option.getD_some, e]
      rfl
    rw [e1]
    refine (hp.map _).trans ?_
    rw [List.map_map]
    exact List.Perm.of_eq rfl

theorem Tryz.infoFile : (Tryz.prog.info? 138).map (fun i => (i.zero, i.size, i.bytes)) = some (some (.agg #[.string ⟨#[]⟩, .string ⟨#[]⟩, .string ⟨#[]⟩]), 3, 48) := by kernel_rfl

def fileCells (l : List PFile) : List Value := l.flatMap fun f => [.string (bs f.name), .string (bs f.sure), .string (bs f.loose)]

theorem fileCells_len (l : List PFile) : (fileCells l).length = 3 * l.length := by
  induction l with
  | nil => rfl
  | cons f l ih => simp [fileCells] at ih ⊢; omega

theorem okName_len {s : List UInt8} (h : okName s = true) : s.length ≤ 24 := by
  unfold okName at h
  simp at h
  exact h.1.2

theorem mergeSort_sorted {l : List (List UInt8)} (h : l.Pairwise (· < ·)) : l.mergeSort (fun x y => decide (x ≤ y)) = l :=
  List.mergeSort_of_pairwise (h.imp fun hlt => by simpa using List.le_of_lt hlt)

set_option maxHeartbeats 4000000 in
theorem files_any (d : Nat) (S : Nat → Prop) (D : PDisk) (N : Int) (w : World) (h : DiskAt w d S D) (hw : D.WF N) :
    Calls Tryz.prog 66 #[ptr d] w fun e w' => ∃ v, e = .returned v ∧ w'.ownsRow w.heap.size 138 3 v D.files.length (fileCells D.files) ∧ Below w.heap.size w w' := by
  obtain ⟨i0, hi, hz0, hz1, hz2⟩ := info_parts Tryz.infoFile
  obtain ⟨m, fs, h, hS⟩ := h
  obtain ⟨c0, c1, c2, c3, f0, f1, f2, f3⟩ := h.cells
  have hcount := hw.count
  have hdlt := h.dlt
  obtain ⟨D0, hown, hsz, hperm⟩ := h.map.own (by rw [List.length_map, h.len]; exact hcount) (by
    intro p hp
    obtain ⟨x, hx, rfl⟩ := List.mem_map.1 hp
    have := okName_len (hw.ok _ (h.mem' hx))
    show x.2.name.length ≤ maxLen
    unfold maxLen; omega)
  have hkeys : (strKeys D0).Perm (D.files.map (·.name)) := by
    refine hperm.trans (List.Perm.of_eq ?_)
    rw [← h.files, List.map_map, List.map_map]
    exact List.map_congr_left fun x _ => tl_bs _
  rw [List.length_map, h.len] at hsz
  have HW := hid hw
  have HKEYS := hid hkeys
  clear hw hkeys hperm
  unfold ptr
  go_enter Tryz.func66, Tryz.ntmps66
  go_wp2_with fail
  refine (callsIn_wide.1 (Tryz.maps_Keys_53 (some m) w)).mono ?_
  rintro e w1 ⟨rfl, rfl⟩
  go_wp2_with fail
  refine (callsIn_wide.1 (Tryz.slices_Sorted_keys_52_53 m 256 D0 _ w hown (by rw [hsz]; unfold maxLen; omega) (by omega))).mono ?_
  rintro e w2 ⟨nv, ss, rfl, hss, hrow, _, hbel⟩
  have hsort : ss.mergeSort (fun x y => decide (x ≤ y)) = D.files.map (·.name) := by
    rw [mergeSort_of_perm (hss.trans HKEYS.out)]
    exact mergeSort_sorted ((sorted_names _).1 HW.out.sorted)
  have hlen : ss.length = D.files.length := by have := (hss.trans HKEYS.out).length_eq; simpa using this
  rw [hsort, hlen, List.map_map] at hrow
  obtain ⟨ad, cap, rfl, hcell⟩ : ∃ ad cap, nv = .slice ad D.files.length cap ∧ ∀ k f, D.files[k]? = some f → ∃ g, ad = some ⟨g, 0, none⟩ ∧ w2.cell? ⟨g, k, none⟩ = some (.string (bs f.name)) := by
    rcases Joins.ownsRow_forms hrow with ⟨e, hz⟩ | ⟨g, cap, rfl⟩
    · refine ⟨none, 0, by rw [e, hz], fun k f hk => ?_⟩
      have := (List.getElem?_eq_some_iff.1 hk).1
      omega
    · refine ⟨_, cap, rfl, fun k f hk => ⟨g, rfl, ?_⟩⟩
      have hk1 := (List.getElem?_eq_some_iff.1 hk).1
      rw [hrow.cellAt k (by omega), List.getElem?_map, hk]
      rfl
  have HCELL := hid hcell
  have HBEL := hid hbel
  have hb2 : Below w.heap.size w w2 := bel_next (bel_alloc (Below.refl _ _) _) hbel
  have hdisk := h.below hb2
  have HD := hid hdisk
  have HD0 := hid h
  have hsz2 := hb2.size
  clear hcell hbel hrow hss hsort hlen hown hdisk h c0 c1 c2 c3 f0 f1 f2 f3
  go_wp2_with fail
  go_loopw [17, 3] (fun a l wr => ∃ (k : Nat) (v : Value), k ≤ D.files.length ∧ a = .int .i64 k ∧ v = l ∧ Below w2.heap.size w2 wr ∧ wr.ownsRow w2.heap.size 138 3 v k (fileCells (D.files.take k))) (fun a _ _ => D.files.length - (intOf a).toNat)
  case atStart => exact ⟨0, _, by omega, rfl, rfl, Below.refl _ _, World.ownsRow_nil _ _ _ _⟩
  case round =>
    obtain ⟨k, v, hk, rfl, rfl, hb, hown⟩ := hrel
    by_cases hlt : k < D.files.length
    · obtain ⟨g, rfl, hc⟩ := HCELL.out k D.files[k] (by rw [List.getElem?_eq_getElem hlt])
      obtain ⟨b, hbm⟩ := HD0.out.mem (List.getElem_mem hlt)
      have hf : D.files[k] ∈ D.files := List.getElem_mem hlt
      have htk : fileCells (D.files.take (k + 1)) = fileCells (D.files.take k) ++ [.string (bs D.files[k].name), .string (bs D.files[k].sure), .string (bs D.files[k].loose)] := by
        rw [List.take_succ_eq_append_getElem hlt]; unfold fileCells; rw [List.flatMap_append]; simp
      have HTK := hid htk
      clear htk
      have hls := HW.out.lens hf
      generalize D.files[k] = f at *
      have hglt := World.block_lt_of_cell? w2 _ hc
      have hc' : wr.cell? ⟨g, k, none⟩ = some (.string (bs f.name)) := (hb.cell (p := ⟨g, k, none⟩) hglt).trans hc
      have hdr := HD.out.below hb
      obtain ⟨c0, c1, c2, c3, f0, f1, f2, f3⟩ := hdr.cells
      have hlk := hdr.find hbm
      unfold ptr at hlk
      have hbk := hdr.blk _ hbm
      have b0 := hbk.cell (i := 0) (v := .string (bs f.sure)) rfl
      have b1 := hbk.cell (i := 1) (v := .string (bs f.loose)) rfl
      have hblt := hbk.lt
      have hsw := hb.size
      have hbold : b < w2.heap.size := (HD.out.blk _ hbm).lt
      have n1 : some b ≠ v.ownBlock := fun e => by have := (hown.lt _ e.symm).1; omega
      clear hc
      have hk0 : (0 : Int) ≤ (k : Int) := by omega
      have hk1 : (k : Int) < (D.files.length : Int) := by omega
      have hsz3 : w2.heap.size ≤ wr.heap.size := hsw
      have hbase : w2.heap.size ≤ (wr.alloc (.cells #[.string (bs f.name), .string (bs f.sure), .string (bs f.loose)] 138)).heap.size := by simp; omega
      go_wp2_with fail
      go_region_held3 (fun w' => w'.cell? ⟨b, 0, none⟩ = some (.string (bs f.sure)) ∧ w'.cell? ⟨b, 1, none⟩ = some (.string (bs f.loose)))
        (first
          | go_keep
          | (go_split_ands
             refine ⟨?_, ?_⟩
             · (rw [hgrow.cell_far _ (by simp; omega) n1]; assumption)
             · (rw [hgrow.cell_far _ (by simp; omega) n1]; assumption)))
        ((refine step_append_lies _ (by rfl) _ _ _ (by rfl) w2.heap.size 138 i0 _ 3 48 Tryz.underlying135 hi hz0 hz1 hz2 rfl (by omega) v k _ (by rfl) ((hown.alloc _).drew) ⟨wr.heap.size, 0, none⟩ 1 1 [.string (bs f.name), .string (bs f.sure), .string (bs f.loose)] (by rfl) (by rfl) (World.news_of_block (cs := #[.string (bs f.name), .string (bs f.sure), .string (bs f.loose)]) (t := 138) (fr := (0, 0)) (heap_alloc_new wr _)) (by simp [Value.oneCell']) (by omega) (by unfold maxLen; omega) (by omega) hbase (wr.heap.size + 1) (by simp) ?_; intro gg cap2 w3 hown3 hgrow hat hlt3))
      go_wp2_with fail
      go_roundw
      case rel =>
        refine ⟨k + 1, _, by omega, by go_num, rfl, ?_, ?_⟩
        · have hgb : Below w2.heap.size w2 (wr.alloc (.cells #[.string (bs f.name), .string (bs f.sure), .string (bs f.loose)] 138)).drew := (hb.alloc hsw _).drew
          exact hgb.grown hgrow (by simpa using hbase) (fun j hj => by have := (hown.lt j hj).1; omega)
        · rw [HTK.out]; exact hown3
      case measure => simp [intOf]; omega
    · have hkn : k = D.files.length := by omega
      have HK := hid hkn
      clear hkn
      have hown2 : wr.ownsRow w.heap.size 138 3 v D.files.length (fileCells D.files) := by
        have := own_base hown hsz2
        rwa [HK.out, List.take_length] at this
      go_wp2_with fail
      go_ret
      exact ⟨_, rfl, hown2, bel_next hb2 hb⟩

end Go.Proofs.YtgjkjkeeblbjlaaGreatDoor
