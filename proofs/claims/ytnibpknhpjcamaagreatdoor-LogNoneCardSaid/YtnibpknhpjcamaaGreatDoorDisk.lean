/-
  Package disk (chapter 4) as plain functions: a disk's files, in the order of names. No conditions.
-/
import Derived.Test.YtnibpknhpjcamaaGreatDoorStr
import Derived.Lib.SlTrimSet
namespace Go.Proofs.YtnibpknhpjcamaaGreatDoor

/-- Blocks of so many bytes. -/
def blk (n : Int) : Int := if (n + 63) / 64 ≤ 1 then 1 else (n + 63) / 64

structure PFile where
  name : List UInt8
  sure : List UInt8
  loose : List UInt8

def PFile.size (f : PFile) : Nat := f.sure.length + f.loose.length

structure PDisk where
  files : List PFile
  room : Int
  fuse : Int
  off : Bool

/-- Letters, digits, '.', '-'. -/
def nameByte (c : UInt8) : Bool := (97 ≤ c.toNat && c.toNat ≤ 122) || (48 ≤ c.toNat && c.toNat ≤ 57) || c.toNat == 46 || c.toNat == 45
/-- May a file have that name? -/
def okName (s : List UInt8) : Bool := !s.isEmpty && decide (s.length ≤ 24) && s.all nameByte

def PDisk.look (D : PDisk) (name : List UInt8) : Option PFile := D.files.find? (fun f => f.name == name)

/-- A file in its place. -/
def putF : List PFile → PFile → List PFile
  | [], f => [f]
  | g :: l, f => if g.name = f.name then f :: l else if g.name < f.name then g :: putF l f else f :: g :: l

/-- Why nothing is done for a name. -/
def PDisk.ready (D : PDisk) (name : List UInt8) : Int := if okName name then (if D.off then 4 else 0) else 1

/-- The fuse. -/
def PDisk.burn (D : PDisk) : PDisk × Bool :=
  if D.fuse = 0 then ({ D with off := true }, false) else if 0 < D.fuse then ({ D with fuse := D.fuse - 1 }, true) else (D, true)

def PDisk.append (D : PDisk) (name s : List UInt8) : PDisk × Int :=
  if D.ready name ≠ 0 then (D, D.ready name)
  else
    let need := match D.look name with | none => blk s.length | some f => blk (f.size + s.length) - blk f.size
    if D.room < need ∨ (D.look name = none ∧ 256 ≤ D.files.length) then (D, 5)
    else
      let f := match D.look name with | none => (⟨name, [], []⟩ : PFile) | some f => f
      let D1 := { D with files := putF D.files { f with loose := f.loose ++ s }, room := D.room - need }
      (D1.burn.1, if D1.burn.2 then 0 else 4)

/-- What the others do first. -/
def PDisk.work (D : PDisk) (name : List UInt8) (act : PDisk → PFile → PDisk) : PDisk × Int :=
  if D.ready name ≠ 0 then (D, D.ready name)
  else match D.look name with
    | none => (D, 3)
    | some f => if D.burn.2 then (act D.burn.1 f, 0) else (D.burn.1, 4)

def PDisk.sync (D : PDisk) (name : List UInt8) : PDisk × Int :=
  D.work name fun D f => { D with files := putF D.files { f with sure := f.sure ++ f.loose, loose := [] } }

def PDisk.truncate (D : PDisk) (name : List UInt8) (n : Int) : PDisk × Int :=
  if D.ready name ≠ 0 then (D, D.ready name)
  else if (∃ f, D.look name = some f ∧ (n < 0 ∨ (f.size : Int) < n)) then (D, 6)
  else D.work name fun D f =>
    let k := min n.toNat f.sure.length
    { D with files := putF D.files { f with sure := f.sure.take k, loose := f.loose.take (n.toNat - k) }, room := D.room + (blk f.size - blk n) }

def PDisk.read (D : PDisk) (name : List UInt8) : List UInt8 × Int :=
  if D.ready name ≠ 0 then ([], D.ready name)
  else match D.look name with
    | none => ([], 3)
    | some f => (f.sure ++ f.loose, 0)

/-- What a crash leaves of the i-th file and those behind it. -/
def crashF (keep : List Int) : Nat → List PFile → List PFile
  | _, [] => []
  | i, f :: l => { f with sure := f.sure ++ f.loose.take (match keep[i]? with | none => 0 | some k => (max 0 (min k f.loose.length)).toNat), loose := [] } :: crashF keep (i + 1) l

def sumBlk (l : List PFile) : Int := (l.map fun f => blk f.size).sum

def PDisk.crash (D : PDisk) (keep : List Int) : PDisk :=
  { files := crashF keep 0 D.files, room := D.room + sumBlk D.files - sumBlk (crashF keep 0 D.files), fuse := -1, off := false }

theorem blk_pos (n : Int) : 1 ≤ blk n := by unfold blk; split <;> omega
theorem blk_le (n : Int) (_h : 0 ≤ n) : n ≤ blk n * 64 := by unfold blk; split <;> omega
theorem blk_mono {a b : Int} (h : a ≤ b) : blk a ≤ blk b := by unfold blk; split <;> split <;> omega

theorem putF_names (l : List PFile) (f : PFile) : ∀ g ∈ putF l f, g = f ∨ g ∈ l := by
  induction l with
  | nil => intro g hg; simp [putF] at hg; exact .inl hg
  | cons h l ih =>
    intro g hg
    rw [putF] at hg
    split at hg
    · simp at hg; rcases hg with rfl | hg
      · exact .inl rfl
      · exact .inr (by simp [hg])
    · split at hg
      · simp at hg; rcases hg with rfl | hg
        · exact .inr (by simp)
        · rcases ih g hg with h1 | h1
          · exact .inl h1
          · exact .inr (by simp [h1])
      · simp at hg; rcases hg with rfl | rfl | hg
        · exact .inl rfl
        · exact .inr (by simp)
        · exact .inr (by simp [hg])

end Go.Proofs.YtnibpknhpjcamaaGreatDoor
