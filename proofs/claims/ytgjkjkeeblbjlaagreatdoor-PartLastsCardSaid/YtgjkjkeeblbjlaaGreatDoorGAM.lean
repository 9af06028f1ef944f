/-
  Plain lemmas about the model's memory: what a block of cells holds, and which blocks a call may have changed. No conditions.
  Plain lemmas about strings of bytes and lists. No conditions.
  Plain facts about the encoding of integers (chapter 1), on lists of bytes. No conditions.
  The walks of package varint (chapter 1): what each call computes. Conditions: integers of 64 bits, texts that fit.
  DERIVED: THE SHELF's CONTRACTS AT THIS DUMP, IN PLAIN WORDS (tools/lay-plain.mjs out of 'TryzShelf.lean', which tools/lay-shelf.mjs wrote): THE SAME DECLARATIONS UNDER THE SAME NAMES: 'import', 'namespace', 'open', 'def', 'theorem' AND NOTHING ELSE: no command of the shelf's: FOR A HAND-IN. Each laying: the table of numbers ('.._ren') and one theorem, a field a fact of the dump's own or the kernel's comparison; each contract: ONE APPLICATION.
  The walks of package varint, texts and lists of integers (chapter 1). Conditions: texts that fit.
  Package crc (chapter 2): the check sum on lists of bytes, and the walks. Conditions: texts that fit.
  Package crc (chapter 2): Sum, Seal, Unseal: the walks. Conditions: texts that fit.
-/
import Derived.WalkKit
import Derived.WalkSpells
import Derived.WalkLawsBesides
import Derived.Deep.Draws
import Derived.Lib.Builder
import Derived.Lib.Bytes
import Derived.Laws.BitsAllLaws
import Derived.Laws.Bits64
import Derived.Laws.Bits128
import Derived.Test.YtgjkjkeeblbjlaaGreatDoorProg
import Derived.ScopeJumps
import Derived.Deep.QuietTactic
import Derived.BigQuiet
import Derived.Shelf.Strings.Builder1
import Derived.Shelf.Strings.Builder2
import Derived.Shelf.Strings.OnBuilder
import Derived.Shelf.Small.Wraps
import Derived.Shelf.Strings.SlTrimAscii
import Derived.Shelf.SlIter.Nil
import Derived.Shelf.SortM.Plain
import Derived.Shelf.SortM.SortNone
import Derived.Ground.GgzProg
import Derived.Ground.SlgmProg
import Derived.Deep.RegionWith
import Derived.Laws.BytesArg
set_option maxRecDepth 100000
namespace Go.Proofs.YtgjkjkeeblbjlaaGreatDoor
open Go.RowKit

/-- Block b holds just the cells c, of type T, and none of them is frozen. -/
def Blk (w : World) (b : Nat) (c : Array Value) (T : TypeId) : Prop := w.heap[b]? = some (.cells c T (0, 0))

theorem Blk.lt {w : World} {b : Nat} {c : Array Value} {T : TypeId} (h : Blk w b c T) : b < w.heap.size :=
  (Array.getElem?_eq_some_iff.1 h).1

theorem Blk.cell {w : World} {b : Nat} {c : Array Value} {T : TypeId} (h : Blk w b c T) {i : Nat} {v : Value} (hv : c[i]? = some v) :
    w.cell? ⟨b, i, none⟩ = some v := by
  unfold Blk at h
  simp [World.cell?, h, hv]

theorem Blk.free {w : World} {b : Nat} {c : Array Value} {T : TypeId} (h : Blk w b c T) (i : Nat) : w.frozen? ⟨b, i, none⟩ = false := by
  unfold Blk at h
  simp [World.frozen?, h]

theorem Blk.set {w : World} {b : Nat} {c : Array Value} {T : TypeId} (h : Blk w b c T) (i : Nat) (v : Value) :
    Blk (w.setCell ⟨b, i, none⟩ v) b (c.setIfInBounds i v) T := by
  unfold Blk at h ⊢
  simp [World.setCell, Array.getElem?_modify, h]

theorem Blk.other {w : World} {b b' : Nat} {c : Array Value} {T : TypeId} (h : Blk w b c T) (hne : b ≠ b') (i : Nat) (v : Value) :
    Blk (w.setCell ⟨b', i, none⟩ v) b c T := by
  unfold Blk at h ⊢
  rw [Below.heap_setCell _ _ _ _ hne]; exact h

theorem Blk.alloc {w : World} {b : Nat} {c : Array Value} {T : TypeId} (h : Blk w b c T) (o : Obj) : Blk (w.alloc o) b c T := by
  have := h.lt
  unfold Blk at h ⊢
  rw [Below.heap_alloc _ _ _ this]; exact h

theorem Blk.new (w : World) (c : Array Value) (T : TypeId) : Blk (w.alloc (.cells c T)) w.heap.size c T := by
  unfold Blk World.alloc
  simp

theorem Blk.drew {w : World} {b : Nat} {c : Array Value} {T : TypeId} (h : Blk w b c T) : Blk w.drew b c T := h
theorem Blk.drewN {w : World} {b : Nat} {c : Array Value} {T : TypeId} (h : Blk w b c T) (n : Nat) : Blk (w.drewN n) b c T := h

theorem Blk.below {w w' : World} {b B : Nat} {c : Array Value} {T : TypeId} (h : Blk w b c T) (hb : Below B w w') (hlt : b < B) : Blk w' b c T := by
  unfold Blk at h ⊢
  rw [hb.block b hlt]; exact h

theorem Blk.below' {w w' : World} {b : Nat} {c : Array Value} {T : TypeId} (h : Blk w b c T) (hb : Below w.heap.size w w') : Blk w' b c T :=
  h.below hb h.lt

theorem Blk.inj {w : World} {b : Nat} {c c' : Array Value} {T T' : TypeId} (h : Blk w b c T) (h' : Blk w b c' T') : c = c' ∧ T = T' := by
  unfold Blk at h h'
  rw [h] at h'
  simpa using h'

/-- The blocks outside S that lay in w lie in w' as they lay; no block has gone; the streams are as they were. -/
structure Fr (S : Nat → Prop) (w w' : World) : Prop where
  os : w'.os = w.os
  tape : w'.tape = w.tape
  output : w'.output = w.output
  size : w.heap.size ≤ w'.heap.size
  block : ∀ k, k < w.heap.size → ¬ S k → w'.heap[k]? = w.heap[k]?

theorem Fr.refl (S : Nat → Prop) (w : World) : Fr S w w := ⟨rfl, rfl, rfl, Nat.le_refl _, fun _ _ _ => rfl⟩

theorem Fr.of_below {S : Nat → Prop} {w w' : World} (h : Below w.heap.size w w') : Fr S w w' :=
  ⟨h.os, h.tape, h.output, h.size, fun k hk _ => h.block k hk⟩

theorem Fr.mono {S S' : Nat → Prop} {w w' : World} (h : Fr S w w') (hS : ∀ k, k < w.heap.size → S k → S' k) : Fr S' w w' :=
  ⟨h.os, h.tape, h.output, h.size, fun k hk hn => h.block k hk (fun hs => hn (hS k hk hs))⟩

theorem Fr.trans {S : Nat → Prop} {a b c : World} (h : Fr S a b) (k : Fr S b c) : Fr S a c :=
  ⟨k.os.trans h.os, k.tape.trans h.tape, k.output.trans h.output, Nat.le_trans h.size k.size,
   fun i hi hn => (k.block i (Nat.lt_of_lt_of_le hi h.size) hn).trans (h.block i hi hn)⟩

theorem Fr.to_below {B : Nat} {S : Nat → Prop} {w w' : World} (h : Fr S w w') (hB : B ≤ w.heap.size) (hS : ∀ k, k < B → ¬ S k) : Below B w w' :=
  ⟨h.os, h.tape, h.output, h.size, fun k hk => h.block k (Nat.lt_of_lt_of_le hk hB) (hS k hk)⟩

theorem Fr.setCell {S : Nat → Prop} {a w : World} (h : Fr S a w) {p : Addr} (hp : S p.block ∨ a.heap.size ≤ p.block) (u : Value) : Fr S a (w.setCell p u) :=
  ⟨h.os, h.tape, h.output, by simpa [World.setCell] using h.size, fun k hk hn => by
    rw [Below.heap_setCell _ _ _ _ (by rintro rfl; rcases hp with hp | hp; exact hn hp; omega)]
    exact h.block k hk hn⟩

theorem Fr.alloc {S : Nat → Prop} {a w : World} (h : Fr S a w) (o : Obj) : Fr S a (w.alloc o) :=
  ⟨h.os, h.tape, h.output, by have := h.size; simp; omega, fun k hk hn => by
    rw [Below.heap_alloc _ _ _ (Nat.lt_of_lt_of_le hk h.size)]; exact h.block k hk hn⟩

theorem Fr.drew {S : Nat → Prop} {a w : World} (h : Fr S a w) : Fr S a w.drew := ⟨h.os, h.tape, h.output, h.size, h.block⟩
theorem Fr.drewN {S : Nat → Prop} {a w : World} (h : Fr S a w) (n : Nat) : Fr S a (w.drewN n) := ⟨h.os, h.tape, h.output, h.size, h.block⟩

theorem Fr.below {S : Nat → Prop} {a b c : World} (h : Fr S a b) (k : Below b.heap.size b c) : Fr S a c := h.trans (Fr.of_below k)

theorem Blk.fr {S : Nat → Prop} {w w' : World} {b : Nat} {c : Array Value} {T : TypeId} (h : Blk w b c T) (hf : Fr S w w') (hn : ¬ S b) : Blk w' b c T := by
  have := h.lt
  unfold Blk at h ⊢
  rw [hf.block b this hn]; exact h

/-- A fact that the walk does not use as a rule; `.out` gives it back. -/
theorem hid {p : Prop} (h : p) : Hid p := h

theorem bel_drewN (B : Nat) (w : World) (n : Nat) : Below B w (w.drewN n) := ⟨rfl, rfl, rfl, Nat.le_refl _, fun _ _ => rfl⟩

theorem bel_grown {w w' : World} (h : Below w.heap.size w w') : w.grownBy w' none := ⟨h.os, h.tape, h.output, h.size, fun k hk _ => h.block k hk⟩

/-- A row that the call owns stays owned across what only makes memory. -/
theorem own_bel {w w' : World} {base : Nat} {e : TypeId} {size : Nat} {v : Value} {n : Nat} {xs : List Value} (h : w.ownsRow base e size v n xs) (hb : Below w.heap.size w w') : w'.ownsRow base e size v n xs :=
  h.kept (bel_grown hb) (by cases v.ownBlock <;> simp)

theorem own_base {w : World} {base base' : Nat} {e : TypeId} {size : Nat} {v : Value} {n : Nat} {xs : List Value} (h : w.ownsRow base e size v n xs) (hb : base' ≤ base) : w.ownsRow base' e size v n xs := by
  refine ⟨h.1, ?_⟩
  rcases h.2 with h2 | ⟨g, cap, cur, hv, hg, r⟩
  · exact .inl h2
  · exact .inr ⟨g, cap, cur, hv, Nat.le_trans hb hg, r⟩

/-- Behind an append to a row of the call's own: what lay below B stands. -/
theorem bel_append {w0 w w' : World} {B : Nat} {e : TypeId} {size : Nat} {v : Value} {n : Nat} {xs : List Value} (h : Below B w0 w) (hown : w.ownsRow B e size v n xs) (hB : B ≤ w.heap.size) (hg : w.grownBy w' v.ownBlock) : Below B w0 w' :=
  h.grown hg hB (fun k hk => (hown.lt k hk).1)

/-- A Builder of the call's own stays what it is across what only makes memory. -/
theorem builder_bel {w w' : World} {T e : TypeId} {B b : Nat} {p : Value} {l : List Value} (h : Lib.BuilderAt T e B b p l w) (hb : Below w.heap.size w w') : Lib.BuilderAt T e B b p l w' := by
  have hlt := h.lt
  obtain ⟨hB, v, hbk, hown, hne⟩ := h
  exact ⟨hB, v, (hb.block b hlt).trans hbk, own_bel hown hb, hne⟩

theorem isBuilder_bel {w w' : World} {T e : TypeId} {B b : Nat} {l : List Value} (h : Lib.IsBuilder T e B b l w) (hb : Below w.heap.size w w') : Lib.IsBuilder T e B b l w' := by
  rcases h with h | h
  · exact .inl (builder_bel h hb)
  · exact .inr (builder_bel h hb)

/-- What only makes memory keeps all cells that there were: two rules for the walk. -/
theorem bcell {W w1 : World} (hb : Below W.heap.size W w1) : (∀ b o, b < W.heap.size → w1.cell? ⟨b, o, none⟩ = W.cell? ⟨b, o, none⟩) ∧ (∀ b o, b < W.heap.size → w1.frozen? ⟨b, o, none⟩ = W.frozen? ⟨b, o, none⟩) :=
  ⟨fun b o h => hb.cell (p := ⟨b, o, none⟩) h, fun b o h => hb.frozen (p := ⟨b, o, none⟩) h⟩

theorem bel_next {w w1 w2 : World} (h : Below w.heap.size w w1) (k : Below w1.heap.size w1 w2) : Below w.heap.size w w2 := h.trans (k.mono h.size)
theorem bel_alloc {w w1 : World} (h : Below w.heap.size w w1) (o : Obj) : Below w.heap.size w (w1.alloc o) := h.alloc h.size o

theorem Blk.c3 {w : World} {b : Nat} {x y z : Value} {T : TypeId} (h : Blk w b #[x, y, z] T) :
    w.cell? ⟨b, 0, none⟩ = some x ∧ w.cell? ⟨b, 1, none⟩ = some y ∧ w.cell? ⟨b, 2, none⟩ = some z ∧ w.frozen? ⟨b, 0, none⟩ = false ∧ w.frozen? ⟨b, 1, none⟩ = false ∧ w.frozen? ⟨b, 2, none⟩ = false :=
  ⟨h.cell rfl, h.cell rfl, h.cell rfl, h.free 0, h.free 1, h.free 2⟩

theorem own_fr {S : Nat → Prop} {w w' : World} {base : Nat} {e : TypeId} {size : Nat} {v : Value} {n : Nat} {xs : List Value} (h : w.ownsRow base e size v n xs) (hf : Fr S w w') (hS : ∀ k, base ≤ k → ¬ S k) : w'.ownsRow base e size v n xs := by
  refine ⟨h.1, ?_⟩
  rcases h.2 with h2 | ⟨g, cap, cur, hv, hg, hh, r⟩
  · exact .inl h2
  · exact .inr ⟨g, cap, cur, hv, hg, (hf.block g (Array.getElem?_eq_some_iff.1 hh).1 (hS g hg)).trans hh, r⟩

theorem Blk.grown {w w' : World} {b : Nat} {c : Array Value} {T : TypeId} {row : Option Nat} (h : Blk w b c T) (hg : w.grownBy w' row) (hne : row ≠ some b) : Blk w' b c T := by
  have := h.lt
  unfold Blk at h ⊢
  rw [hg.block b this (fun e => hne e.symm)]; exact h

theorem own_block_ne {w : World} {base : Nat} {e : TypeId} {size : Nat} {v : Value} {n : Nat} {xs : List Value} (h : w.ownsRow base e size v n xs) {b : Nat} (hb : b < base) : v.ownBlock ≠ some b := by
  intro he
  have := (h.lt b he).1
  omega

theorem cells_new (w : World) (c : List Value) (T : TypeId) : ∀ (j : Nat) (u : Value), c[j]? = some u → (w.alloc (.cells c.toArray T)).cell? ((⟨w.heap.size, 0, none⟩ : Addr).add j) = some u := by
  intro j u h
  have e : (⟨w.heap.size, 0, none⟩ : Addr).add j = ⟨w.heap.size, j, none⟩ := by unfold Addr.add; split <;> simp_all
  rw [e]
  exact (Blk.new w c.toArray T).cell (by simpa using h)

end Go.Proofs.YtgjkjkeeblbjlaaGreatDoor

namespace Go.Proofs.YtgjkjkeeblbjlaaGreatDoor

/-- A text out of its bytes. -/
def bs (l : List UInt8) : ByteArray := ⟨l.toArray⟩
/-- The bytes of a text. -/
def tl (s : ByteArray) : List UInt8 := s.data.toList

theorem bs_tl (s : ByteArray) : bs (tl s) = s := by
  apply ByteArray.ext; apply Array.ext'; rfl
theorem tl_bs (l : List UInt8) : tl (bs l) = l := rfl
theorem bs_inj {a b : List UInt8} (h : bs a = bs b) : a = b := by rw [← tl_bs a, h, tl_bs]
theorem tl_inj {a b : ByteArray} (h : tl a = tl b) : a = b := by rw [← bs_tl a, h, bs_tl]
theorem tl_len (s : ByteArray) : (tl s).length = s.size := Array.length_toList
theorem bs_size (l : List UInt8) : (bs l).size = l.length := rfl
theorem bs_append (a b : List UInt8) : bs a ++ bs b = bs (a ++ b) := by
  apply ByteArray.ext; apply Array.ext'; simp [bs]
theorem tl_append (a b : ByteArray) : tl (a ++ b) = tl a ++ tl b := by simp [tl]
theorem bs_nil : (⟨#[]⟩ : ByteArray) = bs [] := rfl

theorem tl_extract (s : ByteArray) (i j : Nat) : tl (s.extract i j) = ((tl s).drop i).take (j - i) := by
  simp [tl]

theorem extract_drop (s : ByteArray) (k : Nat) : s.extract k s.size = bs ((tl s).drop k) := by
  apply tl_inj
  rw [tl_extract, tl_bs, List.take_of_length_le]
  rw [List.length_drop, tl_len]; omega

theorem extract_take (s : ByteArray) (k : Nat) : s.extract 0 k = bs ((tl s).take k) := by
  apply tl_inj
  rw [tl_extract, tl_bs]
  simp

theorem drop_byte (s : ByteArray) (k : Nat) (h : k < s.size) : (tl s).drop k = s[k] :: (tl s).drop (k + 1) := by
  rw [List.drop_eq_getElem_cons (by rw [tl_len]; exact h)]
  rfl

theorem toList_tl (s : ByteArray) : s.toList = tl s := Lib.toList_data s

theorem str_eq_true {a b : ByteArray} (h : tl a = tl b) : (a.toList == b.toList) = true := by
  rw [toList_tl, toList_tl, h]; exact beq_self_eq_true _
theorem str_eq_false {a b : ByteArray} (h : tl a ≠ tl b) : (a.toList == b.toList) = false := by
  rw [toList_tl, toList_tl]; exact beq_eq_false_iff_ne.2 h
theorem str_ne_true {a b : ByteArray} (h : tl a ≠ tl b) : (a.toList != b.toList) = true := by
  rw [bne, str_eq_false h]; rfl
theorem str_ne_false {a b : ByteArray} (h : tl a = tl b) : (a.toList != b.toList) = false := by
  rw [bne, str_eq_true h]; rfl

end Go.Proofs.YtgjkjkeeblbjlaaGreatDoor

namespace Go.Proofs.YtgjkjkeeblbjlaaGreatDoor
open Go.RowKit

/-- The number that an integer is written as: 2n, or -2n-1. -/
def zig (n : Int) : Nat := if 0 ≤ n then (2 * n).toNat else (-2 * n - 1).toNat

/-- Sevens of bits, the lowest first. -/
def leb (u : Nat) : List UInt8 :=
  if u < 128 then [UInt8.ofNat u] else UInt8.ofNat (u % 128 + 128) :: leb (u / 128)
termination_by u

theorem leb_small {u : Nat} (h : u < 128) : leb u = [UInt8.ofNat u] := by rw [leb, if_pos h]
theorem leb_big {u : Nat} (h : ¬ u < 128) : leb u = UInt8.ofNat (u % 128 + 128) :: leb (u / 128) := by rw [leb, if_neg h]

theorem leb_pos (u : Nat) : 1 ≤ (leb u).length := by
  by_cases h : u < 128
  · rw [leb_small h]; simp
  · rw [leb_big h]; simp

theorem leb_len_le (d : Nat) : ∀ u, u < 2 ^ (7 * d + 7) → (leb u).length ≤ d + 1 := by
  induction d with
  | zero => intro u h; rw [leb_small (by simpa using h)]; simp
  | succ d ih =>
    intro u h
    by_cases hu : u < 128
    · rw [leb_small hu]; simp
    · rw [leb_big hu]
      have := ih (u / 128) (by
        rw [Nat.div_lt_iff_lt_mul (by omega)]
        calc u < 2 ^ (7 * (d + 1) + 7) := h
          _ = 2 ^ (7 * d + 7) * 128 := by rw [show 7 * (d + 1) + 7 = 7 * d + 7 + 7 from by omega, Nat.pow_add])
      simp; omega

theorem leb_len10 {u : Nat} (h : u < 18446744073709551616) : (leb u).length ≤ 10 :=
  leb_len_le 9 u (Nat.lt_of_lt_of_le h (by decide))

/-- The encoding of an integer. -/
def putL (n : Int) : List UInt8 := leb (zig n)

theorem zig_lt {n : Int} (h0 : -9223372036854775808 ≤ n) (h1 : n ≤ 9223372036854775807) : zig n < 18446744073709551616 := by
  unfold zig; split <;> omega

theorem zig_bits {n : Int} (h0 : -9223372036854775808 ≤ n) (h1 : n ≤ 9223372036854775807) :
    bits BinOp.xor IntKind.u64 (IntKind.u64.wrap (IntKind.u64.wrap n * 2)) (IntKind.u64.wrap (n / 9223372036854775808)) = ((zig n : Nat) : Int) := by
  unfold zig
  by_cases h : 0 ≤ n
  · rw [if_pos h]
    obtain ⟨m, rfl⟩ := Int.eq_ofNat_of_zero_le h
    have e1 : IntKind.u64.wrap (m : Int) = (m : Int) := IntWalk.u64_in _ (by omega)
    have e2 : IntKind.u64.wrap ((m : Int) * 2) = ((m * 2 : Nat) : Int) := by rw [IntWalk.u64_in _ (by omega)]; simp
    have e3 : IntKind.u64.wrap ((m : Int) / 9223372036854775808) = ((0 : Nat) : Int) := by
      rw [show (m : Int) / 9223372036854775808 = 0 from by omega]; rfl
    rw [e1, e2, e3, bits_xor_u64_nat _ _ (by omega) (by omega)]
    simp; omega
  · rw [if_neg h]
    obtain ⟨m, hm⟩ : ∃ m : Nat, n = -(m : Int) - 1 := ⟨(-n - 1).toNat, by omega⟩
    subst hm
    have hm : m < 9223372036854775808 := by omega
    have e1 : IntKind.u64.wrap (-(m : Int) - 1) = ((18446744073709551615 - m : Nat) : Int) := by
      rw [IntKind.wrap_u64]; omega
    have e2 : IntKind.u64.wrap (((18446744073709551615 - m : Nat) : Int) * 2) = ((18446744073709551614 - 2 * m : Nat) : Int) := by
      rw [IntKind.wrap_u64]; omega
    have e3 : IntKind.u64.wrap ((-(m : Int) - 1) / 9223372036854775808) = ((18446744073709551615 : Nat) : Int) := by
      rw [show (-(m : Int) - 1) / 9223372036854775808 = -1 from by omega, IntKind.wrap_u64]; rfl
    rw [e1, e2, e3, bits_xor_u64_nat _ _ (by omega) (by omega)]
    have e4 : (18446744073709551614 - 2 * m) ^^^ 18446744073709551615 = 2 * m + 1 := by
      have hb : BitVec.ofNat 64 (18446744073709551614 - 2 * m) ^^^ BitVec.ofNat 64 18446744073709551615 = BitVec.ofNat 64 (2 * m + 1) := by
        have e5 : BitVec.ofNat 64 18446744073709551615 = BitVec.allOnes 64 := by decide
        rw [e5, BitVec.xor_allOnes]
        apply BitVec.eq_of_toNat_eq
        rw [BitVec.toNat_not, BitVec.toNat_ofNat, BitVec.toNat_ofNat]
        omega
      have := congrArg BitVec.toNat hb
      rw [BitVec.toNat_xor, BitVec.toNat_ofNat, BitVec.toNat_ofNat, BitVec.toNat_ofNat, Nat.mod_eq_of_lt (by omega), Nat.mod_eq_of_lt (by omega), Nat.mod_eq_of_lt (by omega)] at this
      exact this
    rw [e4]
    omega

theorem or128_all : ∀ a : Fin 256, a.val ||| 128 = a.val % 128 + 128 := by decide +kernel

theorem or128 (u : Nat) : bits BinOp.or IntKind.u8 ((u : Int) % 256) 128 = ((u % 128 + 128 : Nat) : Int) := by
  rw [u8_or _ _ (by omega) (by omega) (by omega) (by omega)]
  have h := or128_all ⟨u % 256, by omega⟩
  simp only at h
  rw [show ((u : Int) % 256).toNat = u % 256 from by omega, show (128 : Int).toNat = 128 from rfl, h]
  congr 1
  omega

theorem take_succ_set {α : Type} (l : List α) (k : Nat) (x : α) (h : k < l.length) : (l.set k x).take (k + 1) = l.take k ++ [x] := by
  rw [List.take_succ_eq_append_getElem (by simpa using h), List.take_set_of_le (Nat.le_refl k)]
  simp

theorem put_step (u k : Nat) (ns : List Int) (hk : k < ns.length) (hbig : ¬ u < 128) :
    ((ns.set k ((u % 128 + 128 : Nat) : Int)).take (k + 1)).map (fun n => UInt8.ofNat n.toNat) ++ leb (u / 128) = (ns.take k).map (fun n => UInt8.ofNat n.toNat) ++ leb u := by
  rw [take_succ_set _ _ _ hk, leb_big hbig, List.map_append, List.append_assoc]
  rfl

/-- What one byte more makes of the number read so far. -/
def acc (u k c : Nat) : Nat := u ||| (c % 128 * 2 ^ (7 * k)) % 18446744073709551616

/-- Bytes read as a number, k bytes having come to u: the number as it lies in the bytes, and what is behind it. -/
def takeL : List UInt8 → Nat → Nat → Option (Nat × List UInt8)
  | [], _, _ => none
  | c :: r, k, u =>
    if k = 10 then none
    else if 128 ≤ c.toNat then takeL r (k + 1) (acc u k c.toNat)
    else if (1 ≤ k ∧ c.toNat = 0) ∨ (k = 9 ∧ 1 < c.toNat) then none
    else some (acc u k c.toNat, r)

/-- The integer that a number stands for. -/
def unzig (u : Nat) : Int := if u % 2 = 0 then ((u / 2 : Nat) : Int) else -((u / 2 : Nat) : Int) - 1

theorem and127_all : ∀ a : Fin 256, a.val &&& 127 = a.val % 128 := by decide +kernel

theorem and127 (c : Nat) (h : c < 256) : bits BinOp.and IntKind.u8 (c : Int) 127 = ((c % 128 : Nat) : Int) := by
  rw [show (127 : Int) = ((127 : Nat) : Int) from rfl, u8_and_nat _ _ h (by omega)]
  have := and127_all ⟨c, h⟩
  simp only at this
  rw [this]

theorem acc_bits (u k c : Nat) (hu : u < 18446744073709551616) (hc : c < 256) :
    bits BinOp.or IntKind.u64 (u : Int) (IntKind.u64.wrap (IntKind.u64.wrap (bits BinOp.and IntKind.u8 (c : Int) 127) * 2 ^ (7 * k))) = ((acc u k c : Nat) : Int) := by
  rw [and127 c hc, show IntKind.u64.wrap ((c % 128 : Nat) : Int) = ((c % 128 : Nat) : Int) from IntWalk.u64_in _ (by omega)]
  have e : IntKind.u64.wrap (((c % 128 : Nat) : Int) * 2 ^ (7 * k)) = (((c % 128 * 2 ^ (7 * k)) % 18446744073709551616 : Nat) : Int) := by
    rw [IntKind.wrap_u64]
    simp
  rw [e, u64_or_nat _ _ hu (Nat.mod_lt _ (by omega))]
  rfl

theorem acc_lt (u k c : Nat) (hu : u < 18446744073709551616) : acc u k c < 18446744073709551616 := by
  unfold acc
  have h1 : u < 2 ^ 64 := hu
  have h2 : (c % 128 * 2 ^ (7 * k)) % 18446744073709551616 < 2 ^ 64 := Nat.mod_lt _ (by omega)
  exact Nat.or_lt_two_pow h1 h2

theorem unzig_bits (u : Nat) (hu : u < 18446744073709551616) :
    bits BinOp.xor IntKind.i64 ((u : Int) / 2) (-(bits BinOp.and IntKind.u64 (u : Int) 1)) = unzig u := by
  have e1 : bits BinOp.and IntKind.u64 (u : Int) 1 = ((u % 2 : Nat) : Int) := by
    rw [show (1 : Int) = ((1 : Nat) : Int) from rfl, u64_and_nat _ _ hu (by omega), Nat.and_one_is_mod]
  have e2 : (u : Int) / 2 = ((u / 2 : Nat) : Int) := by omega
  rw [e1, e2]
  unfold unzig
  by_cases h : u % 2 = 0
  · rw [if_pos h, h]
    have hx : ∀ a : Nat, a < 9223372036854775808 → bits BinOp.xor IntKind.i64 (a : Int) (-((0 : Nat) : Int)) = (a : Int) := by
      intro a ha
      show IntKind.i64.wrap ((BitVec.ofInt 64 (a : Int) ^^^ BitVec.ofInt 64 (-((0 : Nat) : Int))).toNat : Int) = _
      rw [show BitVec.ofInt 64 (-((0 : Nat) : Int)) = 0#64 from by decide, BitVec.xor_zero, ofInt_u64 a (by omega)]
      simp [IntKind.wrap, IntKind.bits, IntKind.signed]
      omega
    exact hx _ (by omega)
  · rw [if_neg h, show u % 2 = 1 from by omega]
    have hx : ∀ a : Nat, a < 9223372036854775808 → bits BinOp.xor IntKind.i64 (a : Int) (-((1 : Nat) : Int)) = -(a : Int) - 1 := by
      intro a ha
      show IntKind.i64.wrap ((BitVec.ofInt 64 (a : Int) ^^^ BitVec.ofInt 64 (-((1 : Nat) : Int))).toNat : Int) = _
      rw [show BitVec.ofInt 64 (-((1 : Nat) : Int)) = BitVec.allOnes 64 from by decide, BitVec.xor_allOnes, BitVec.toNat_not, ofInt_u64 a (by omega)]
      simp [IntKind.wrap, IntKind.bits, IntKind.signed]
      omega
    exact hx _ (by omega)

theorem unzig_walk (u : Nat) (hu : u < 18446744073709551616) :
    bits BinOp.xor IntKind.i64 (wrap64 ((u : Int) / 2)) (wrap64 (-wrap64 (bits BinOp.and IntKind.u64 (u : Int) 1))) = unzig u := by
  have e1 : bits BinOp.and IntKind.u64 (u : Int) 1 = ((u % 2 : Nat) : Int) := by
    rw [show (1 : Int) = ((1 : Nat) : Int) from rfl, u64_and_nat _ _ hu (by omega), Nat.and_one_is_mod]
  have h := unzig_bits u hu
  rw [e1] at h ⊢
  rw [IntWalk.wrap64_in ((u : Int) / 2) (by omega), IntWalk.wrap64_in ((u % 2 : Nat) : Int) (by omega), IntWalk.wrap64_in (-((u % 2 : Nat) : Int)) (by omega)]
  exact h

end Go.Proofs.YtgjkjkeeblbjlaaGreatDoor

namespace Go.Proofs.YtgjkjkeeblbjlaaGreatDoor
open Go.RowKit

/-- The cells of an array of ten bytes while a number is laid. -/
def PutRel (B : Nat) (w : World) (u0 : Nat) (a b : Value) (wr : World) : Prop :=
  ∃ (u k : Nat) (ns : List Int), a = .int .u64 u ∧ b = .int .i64 k ∧ ns.length = 10 ∧ k + (leb u).length ≤ 10 ∧
    Blk wr B (ns.map (Value.int .u8)).toArray 231 ∧ (ns.take k).map (fun n => UInt8.ofNat n.toNat) ++ leb u = leb u0 ∧ Below B w wr


set_option maxHeartbeats 400000 in
theorem put_any (n : Int) (w : World) (h0 : -9223372036854775808 ≤ n) (h1 : n ≤ 9223372036854775807) :
    Calls Tryz.prog 114 #[.int .i64 n] w fun e w' => e = .returned (.string (bs (putL n))) ∧ Below w.heap.size w w' := by
  have hz := zig_bits h0 h1
  have hlt := zig_lt h0 h1
  have hl10 := leb_len10 hlt
  clear hlt
  go_enter Tryz.func114, Tryz.ntmps114
  go_wp2
  go_loopw [3, 5] (fun a b wr => PutRel w.heap.size w (zig n) a b wr) (fun a _ _ => (intOf a).toNat)
  case atStart =>
    exact ⟨zig n, 0, List.replicate 10 0, rfl, rfl, by simp, by omega, Blk.new _ _ _, by simp, (Below.refl _ _).alloc (Nat.le_refl _) _⟩
  case round =>
    obtain ⟨u, k, ns, rfl, rfl, hns, hk, hB, hcat, hbel⟩ := hrel
    clear h0 h1 hz
    have HN := hid hns
    have HC := hid hcat
    clear hns hcat
    have hp := leb_pos u
    have hc : wr.cell? ⟨w.heap.size, k, none⟩ = some (.int .u8 (ns.getD k 0)) := hB.cell (by
      have : k < ns.length := by have := HN.out; omega
      simp [this])
    have hf := hB.free k
    have HB := hid hB
    clear hB
    have hk10 : k < ns.length := by have := HN.out; omega
    by_cases hbig : u < 128
    · have hs0 : (0 : Int) ≤ (k : Int) + 1 := by omega
      have hs1 : (k : Int) + 1 ≤ 10 := by omega
      have hxl : (ns.take k ++ [(u : Int)]).length = k + 1 := by simp; omega
      have hcv := run_convert_bytes_arg (P := Tryz.prog) (wr.setCell ⟨w.heap.size, k, none⟩ (.int .u8 u)) 164 5 Tryz.underlying164 Tryz.underlying5 w.heap.size 0 (k + 1) 10 (ns.take k ++ [(u : Int)]) hxl (by
        intro i hi
        refine (HB.out.set k (.int .u8 u)).cell ?_
        simp only [Nat.zero_add]
        rw [Array.getElem?_setIfInBounds]
        by_cases e : k = i
        · subst e
          simp [hk10, Nat.min_eq_left (Nat.le_of_lt hk10)]
        · have hik : i < k := by omega
          rw [if_neg e]
          simp [List.getD, List.getElem?_append_left (show i < (ns.take k).length by simp; omega), hik, show i < ns.length by omega])
      clear hxl
      go_wp2
      go_ret
      refine ⟨?_, hbel.setCell (Nat.le_refl _) _⟩
      have e : strOfNums (ns.take k ++ [(u : Int)]) = bs (putL n) := by
        unfold strOfNums putL bs
        rw [← HC.out, leb_small hbig]
        simp
      show Ending.returned (.string (strOfNums (ns.take k ++ [(u : Int)]))) = _
      rw [e]
    · go_wp2
      go_roundw
      case rel =>
        refine ⟨u / 128, k + 1, ns.set k (((u % 128 + 128 : Nat)) : Int), by go_num, by go_num, by simp [HN.out], ?_, ?_, ?_, hbel.setCell (Nat.le_refl _) _⟩
        · rw [leb_big hbig] at hk; simp at hk; omega
        · have h := HB.out.set k (.int .u8 (bits BinOp.or IntKind.u8 ((u : Int) % 256) 128))
          rw [or128] at h ⊢
          simpa using h
        · rw [← HC.out]; exact put_step u k ns hk10 hbig
      case measure => simp [intOf]; omega

def tmpNat (a : Act) (i : Nat) : Nat := (intOf (a.tmps.getD i undef)).toNat

/-- A scope that is a loop by a goto: every way comes to the label. -/
theorem wp_scope_loop {P : Program} {a : Act} {w : World} {Q : Exit → Act → World → Prop} {c rest : Code} (l : Nat) (J : Act → World → Prop) (μ : Act → World → Nat) (hf : findLabel c l = some (Code.seq .skip rest))
    (enter : ∀ Q' : Exit → Act → World → Prop, (∀ a w, J a w → rest.wp P Q' a w) → c.wp P Q' a w)
    (pass : ∀ a w, J a w → rest.wp P (Exit.jump l (fun a' w' => J a' w' ∧ μ a' w' < μ a w) Q) a w) : (Code.scope c).wp P Q a w :=
  wp_scope_jumps (rest := Code.seq .skip rest) l J μ hf (enter _ (fun a w hJ => wp_mono (pass a w hJ) (fun e a w h => by
    cases e <;> first | exact h | exact ⟨h.1, h.2.1⟩))) (fun a w hJ => wp_seq (wp_skip (pass a w hJ)))

/-- What varint.Take answers. -/
def takeV : Option (Nat × List UInt8) → Value
  | none => .tuple #[.int .i64 0, .string ⟨#[]⟩, .int .i64 2]
  | some (u, r) => .tuple #[.int .i64 (unzig u), .string (bs r), .int .i64 0]

def TakeJ (s : ByteArray) (w : World) (a : Act) (w' : World) : Prop :=
  ∃ (u k : Nat) (z1 z2 z3 z4 z7 z8 z9 z10 z11 z12 z13 z14 z15 z16 z17 z18 z19 z20 z21 z22 z23 z24 z25 z26 z27 z28 z29 z30 z31 z32 z33 z34 z35 z36 z37 z38 z39 z40 z41 z42 z43 z44 z45 z46 z47 z48 z49 z50 z51 z52 z53 z54 z55 : Value),
    a = { tmps := #[.string s, z1, z2, z3, z4, .int .u64 u, .int .i64 k, z7, z8, z9, z10, z11, z12, z13, z14, z15, z16, z17, z18, z19, z20, z21, z22, z23, z24, z25, z26, z27, z28, z29, z30, z31, z32, z33, z34, z35, z36, z37, z38, z39, z40, z41, z42, z43, z44, z45, z46, z47, z48, z49, z50, z51, z52, z53, z54, z55], defers := [] } ∧ w' = w ∧ k ≤ s.size ∧ k ≤ 10 ∧ u < 18446744073709551616 ∧ takeL ((tl s).drop k) k u = takeL (tl s) 0 0

def TakePost (s : ByteArray) (w : World) (e : Ending) (w' : World) : Prop :=
  e = .returned (takeV (takeL (tl s) 0 0)) ∧ ∃ n, w' = w.drewN n

set_option maxHeartbeats 1000000 in
theorem take_any (s : ByteArray) (w : World) (hs : s.size ≤ 140737488355328) :
    Calls Tryz.prog 106 #[.string s] w (TakePost s w) := by
  go_enter Tryz.func106, Tryz.ntmps106
  go_wp2
  refine wp_scope_loop 0 (TakeJ s w) (fun a _ => 10 - tmpNat a 6) rfl ?_ ?_
  · intro Q' H
    go_wp2
    go_step3
    go_step
    go_step
    exact H _ _ ⟨0, 0, _, _, _, _, _, _, _, _, _, _, _, _, _, _, _, _, _, _, _, _, _, _, _, _, _, _, _, _, _, _, _, _, _, _, _, _, _, _, _, _, _, _, _, _, _, _, _, _, _, _, _, _, _, rfl, rfl, by omega, by omega, by omega, rfl⟩
  · rintro a w' ⟨u, k, z1, z2, z3, z4, z7, z8, z9, z10, z11, z12, z13, z14, z15, z16, z17, z18, z19, z20, z21, z22, z23, z24, z25, z26, z27, z28, z29, z30, z31, z32, z33, z34, z35, z36, z37, z38, z39, z40, z41, z42, z43, z44, z45, z46, z47, z48, z49, z50, z51, z52, z53, z54, z55, rfl, rfl, hk, hk10, hu, hT⟩
    have HU := hid hu
    have HT := hid hT
    clear hu hT
    by_cases h1 : k = s.size
    · have h1' : ((k : Int) == (s.size : Int)) = true := beq_iff_eq.2 (by omega)
      have hn : takeL (tl s) 0 0 = none := by
        rw [← HT.out, List.drop_eq_nil_of_le (by rw [tl_len]; omega)]; rfl
      have HNn := hid hn
      have H1 := hid h1
      clear hn h1
      go_wp2
      go_ret3
      exact ⟨by rw [HNn.out]; rfl, 0, rfl⟩
    have h1' : ((k : Int) == (s.size : Int)) = false := beq_eq_false_iff_ne.2 (by omega)
    have h3 : k < s.size := by omega
    have hd := drop_byte s k h3
    rw [hd] at HT
    clear hd
    by_cases h2 : k = 10
    · have h2' : ((k : Int) == 10) = true := beq_iff_eq.2 (by omega)
      have hn : takeL (tl s) 0 0 = none := by
        rw [← HT.out, takeL, if_pos h2]
      have HNn := hid hn
      have H2 := hid h2
      clear hn h2
      go_wp2
      go_ret3
      exact ⟨by rw [HNn.out]; rfl, 0, rfl⟩
    have h2' : ((k : Int) == 10) = false := beq_eq_false_iff_ne.2 (by omega)
    have h4 : (0 : Int) ≤ 7 * (k : Int) := by omega
    have h5 : 7 * (k : Int) ≤ 64 := by omega
    have hc := s[k].toNat_lt
    have hacc := acc_bits u k s[k].toNat HU.out hc
    have HA := hid (acc_lt u k s[k].toNat HU.out)
    generalize hcv : s[k].toNat = c at *
    by_cases h6 : 128 ≤ c
    · have HT' : Hid (takeL ((tl s).drop (k + 1)) (k + 1) (acc u k c) = takeL (tl s) 0 0) := by
        have h := HT.out
        rw [takeL, if_neg h2, hcv, if_pos h6] at h
        exact h
      clear HT
      go_wp2
      refine wp_goto ?_
      refine ⟨rfl, ⟨acc u k c, k + 1, _, _, _, _, _, _, _, _, _, _, _, _, _, _, _, _, _, _, _, _, _, _, _, _, _, _, _, _, _, _, _, _, _, _, _, _, _, _, _, _, _, _, _, _, _, _, _, _, _, _, _, _, _, rfl, rfl, by omega, by omega, HA.out, HT'.out⟩, ?_⟩
      show 10 - (((k + 1 : Nat) : Int)).toNat < 10 - ((k : Int)).toNat
      omega
    · by_cases h7 : (1 ≤ k ∧ c = 0) ∨ (k = 9 ∧ 1 < c)
      · have hn : takeL (tl s) 0 0 = none := by
          rw [← HT.out, takeL, if_neg h2, hcv, if_neg h6, if_pos h7]
        have HNn := hid hn
        clear hn HT
        rcases h7 with ⟨h8, h9⟩ | ⟨h8, h9⟩
        · have h9' : ((c : Int) == 0) = true := beq_iff_eq.2 (by omega)
          clear h9
          go_wp2
          go_ret3
          exact ⟨by rw [HNn.out]; rfl, 0, rfl⟩
        · have h9' : ((c : Int) == 0) = false := beq_eq_false_iff_ne.2 (by omega)
          have h8' : ((k : Int) + 1 == 10) = true := beq_iff_eq.2 (by omega)
          have h8'' : (1 : Int) < (k : Int) + 1 := by omega
          have h9'' : (1 : Int) < (c : Int) := by omega
          clear h8
          go_wp2
          go_ret3
          exact ⟨by rw [HNn.out]; rfl, 0, rfl⟩
      · have hn : takeL (tl s) 0 0 = some (acc u k c, (tl s).drop (k + 1)) := by
          rw [← HT.out, takeL, if_neg h2, hcv, if_neg h6, if_neg h7]
        have HNn := hid hn
        clear hn HT
        have hz := unzig_walk (acc u k c) HA.out
        have hsx := extract_drop s (k + 1)
        have hk2 : (0 : Int) ≤ (k : Int) + 1 := by omega
        have hk3 : (k : Int) + 1 ≤ (s.size : Int) := by omega
        by_cases h8 : k = 0
        · have h8' : decide ((1 : Int) < (k : Int) + 1) = false := by simp; omega
          have h9' : ((k : Int) + 1 == 10) = false := beq_eq_false_iff_ne.2 (by omega)
          clear h8
          go_wp2
          go_quiet (fail)
          go_wp2
          go_ret3
          exact ⟨by rw [HNn.out]; rfl, _, rfl⟩
        · have h8' : decide ((1 : Int) < (k : Int) + 1) = true := by simp; omega
          have h10' : ((c : Int) == 0) = false := beq_eq_false_iff_ne.2 (by omega)
          by_cases h11 : k = 9
          · have h9' : ((k : Int) + 1 == 10) = true := beq_iff_eq.2 (by omega)
            have h12' : decide ((1 : Int) < (c : Int)) = false := by simp; omega
            have h13 : ¬ (1 : Int) < (c : Int) := by omega
            clear h11
            go_wp2
            go_quiet (fail)
            go_wp2
            go_ret3
            exact ⟨by rw [HNn.out]; rfl, _, rfl⟩
          · have h9' : ((k : Int) + 1 == 10) = false := beq_eq_false_iff_ne.2 (by omega)
            go_wp2
            go_quiet (fail)
            go_wp2
            go_ret3
            exact ⟨by rw [HNn.out]; rfl, _, rfl⟩

theorem take_none (s : ByteArray) (w : World) (hs : s.size ≤ 140737488355328) (h : takeL (tl s) 0 0 = none) :
    Calls Tryz.prog 106 #[.string s] w fun e w' => e = .returned (.tuple #[.int .i64 0, .string ⟨#[]⟩, .int .i64 2]) ∧ Below w.heap.size w w' :=
  (take_any s w hs).mono fun e w' ⟨he, n, hw⟩ => by rw [h] at he; subst hw; exact ⟨he, bel_drewN _ _ _⟩

theorem take_some (s : ByteArray) (u : Nat) (r : List UInt8) (w : World) (hs : s.size ≤ 140737488355328) (h : takeL (tl s) 0 0 = some (u, r)) :
    Calls Tryz.prog 106 #[.string s] w fun e w' => e = .returned (.tuple #[.int .i64 (unzig u), .string (bs r), .int .i64 0]) ∧ Below w.heap.size w w' :=
  (take_any s w hs).mono fun e w' ⟨he, n, hw⟩ => by rw [h] at he; subst hw; exact ⟨he, bel_drewN _ _ _⟩

end Go.Proofs.YtgjkjkeeblbjlaaGreatDoor

namespace Go.Proofs
open Go.Shelf
def Tryz.lays169_ren : Go.Shelf.Ren := ⟨fun | 169 => 90 | n => n, fun | 70 => 163 | 9 => 9 | 0 => 0 | 72 => 166 | 37 => 164 | 127 => 206 | 3 => 3 | 5 => 5 | n => n, fun | n => n⟩
theorem Tryz.lays169 : Go.Proofs.Lays.n169 Tryz.prog Tryz.lays169_ren := {
  mixed := by kernel_rfl
  f169 := Tryz.func90.trans (congrArg some (by kernel_rfl))
  t0 := Tryz.underlying0
  a0 := Tryz.isAgg0
  z0 := Tryz.sizeOf0
  v0 := Tryz.zeroValue0
  t3 := Tryz.underlying3
  a3 := Tryz.isAgg3
  z3 := Tryz.sizeOf3
  v3 := Tryz.zeroValue3
  t9 := Tryz.underlying9
  a9 := Tryz.isAgg9
  z9 := Tryz.sizeOf9
  v9 := Tryz.zeroValue9
  t37 := Tryz.underlying164
  a37 := Tryz.isAgg164
  z37 := Tryz.sizeOf164
  v37 := Tryz.zeroValue164
  t70 := Tryz.underlying163
  a70 := Tryz.isAgg163
  z70 := Tryz.sizeOf163
  v70 := Tryz.zeroValue163
  t72 := Tryz.underlying166
  a72 := Tryz.isAgg166
  z72 := Tryz.sizeOf166
  v72 := Tryz.zeroValue166
  t127 := Tryz.underlying206
  a127 := Tryz.isAgg206
  z127 := Tryz.sizeOf206
  v127 := Tryz.zeroValue206 }
theorem Tryz.Builder_Extra_169 : Builder.Extra Tryz.prog Tryz.lays169_ren := {
  sizeBuilder := by kernel_rfl
  liesBuilder := by kernel_rfl
  t5 := Tryz.underlying5
  a5 := Tryz.isAgg5
  z5 := Tryz.sizeOf5
  v5 := Tryz.zeroValue5
  infoByte := by kernel_rfl
  cellsByte := by kernel_rfl
  sizeByte := by kernel_rfl
  neB5 := by decide }
open Go.RowKit in
/-- (*strings.Builder).String: "String returns the accumulated string.": WHATEVER THE BUILDER HOLDS. (LAID: no walk: one application.) -/
theorem Tryz.Builder_String_any (B b : Nat) (l : List UInt8) (w : World) (h : Lib.IsBuilder 166 5 B b (Lib.byteCells l) w) (hBw : B ≤ w.heap.size) :
    Calls Tryz.prog 90 #[.pointer (some ⟨b, 0, none⟩)] w fun e w' => e = .returned (.string ⟨l.toArray⟩) ∧ Below B w w' := Any.Builder_String_any Tryz.lays169 Tryz.Builder_Extra_169 B b l w h hBw
def Tryz.lays156_ren : Go.Shelf.Ren := ⟨fun | 156 => 94 | 165 => 119 | 166 => 87 | 169 => 90 | 240 => 113 | 241 => 146 | 276 => 144 | 277 => 160 | n => n, fun | 31 => 112 | 9 => 9 | 3 => 3 | 4 => 4 | 0 => 0 | 20 => 20 | 72 => 166 | 76 => 169 | 70 => 163 | 37 => 164 | 75 => 168 | 127 => 206 | 164 => 229 | 5 => 5 | 80 => 173 | n => n, fun | n => n⟩
theorem Tryz.lays156 : Go.Proofs.Lays.n156 Tryz.prog Tryz.lays156_ren := {
  mixed := by kernel_rfl
  f156 := Tryz.func94.trans (congrArg some (by kernel_rfl))
  f165 := Tryz.func119.trans (congrArg some (by kernel_rfl))
  f166 := Tryz.func87.trans (congrArg some (by kernel_rfl))
  f169 := Tryz.func90.trans (congrArg some (by kernel_rfl))
  f240 := Tryz.func113.trans (congrArg some (by kernel_rfl))
  f241 := Tryz.func146.trans (congrArg some (by kernel_rfl))
  f276 := Tryz.func144.trans (congrArg some (by kernel_rfl))
  f277 := Tryz.func160.trans (congrArg some (by kernel_rfl))
  t0 := Tryz.underlying0
  a0 := Tryz.isAgg0
  z0 := Tryz.sizeOf0
  v0 := Tryz.zeroValue0
  t3 := Tryz.underlying3
  a3 := Tryz.isAgg3
  z3 := Tryz.sizeOf3
  v3 := Tryz.zeroValue3
  t4 := Tryz.underlying4
  a4 := Tryz.isAgg4
  z4 := Tryz.sizeOf4
  v4 := Tryz.zeroValue4
  t9 := Tryz.underlying9
  a9 := Tryz.isAgg9
  z9 := Tryz.sizeOf9
  v9 := Tryz.zeroValue9
  t20 := Tryz.underlying20
  a20 := Tryz.isAgg20
  z20 := Tryz.sizeOf20
  v20 := Tryz.zeroValue20
  t31 := Tryz.underlying112
  a31 := Tryz.isAgg112
  z31 := Tryz.sizeOf112
  v31 := Tryz.zeroValue112
  t37 := Tryz.underlying164
  a37 := Tryz.isAgg164
  z37 := Tryz.sizeOf164
  v37 := Tryz.zeroValue164
  t70 := Tryz.underlying163
  a70 := Tryz.isAgg163
  z70 := Tryz.sizeOf163
  v70 := Tryz.zeroValue163
  t72 := Tryz.underlying166
  a72 := Tryz.isAgg166
  z72 := Tryz.sizeOf166
  v72 := Tryz.zeroValue166
  t75 := Tryz.underlying168
  a75 := Tryz.isAgg168
  z75 := Tryz.sizeOf168
  v75 := Tryz.zeroValue168
  t76 := Tryz.underlying169
  a76 := Tryz.isAgg169
  z76 := Tryz.sizeOf169
  v76 := Tryz.zeroValue169
  t127 := Tryz.underlying206
  a127 := Tryz.isAgg206
  z127 := Tryz.sizeOf206
  v127 := Tryz.zeroValue206
  t164 := Tryz.underlying229
  a164 := Tryz.isAgg229
  z164 := Tryz.sizeOf229
  v164 := Tryz.zeroValue229 }
theorem Tryz.Builder_Extra_156 : Builder.Extra Tryz.prog Tryz.lays156_ren := {
  sizeBuilder := by kernel_rfl
  liesBuilder := by kernel_rfl
  t5 := Tryz.underlying5
  a5 := Tryz.isAgg5
  z5 := Tryz.sizeOf5
  v5 := Tryz.zeroValue5
  infoByte := by kernel_rfl
  cellsByte := by kernel_rfl
  sizeByte := by kernel_rfl
  neB5 := by decide }
open Go.RowKit in
/-- No element: the empty string; the world is as it was. (Whatever the slice's address and capacity: a nil slice too.) (LAID: no walk: one application.) -/
theorem Tryz.strings_Join_none (a : Option Addr) (c : Nat) (sep : ByteArray) (w : World) :
    Calls Tryz.prog 94 #[.slice a 0 c, .string sep] w fun e w' => e = .returned (.string ⟨#[]⟩) ∧ w' = w := Any.strings_Join_none Tryz.lays156 Tryz.Builder_Extra_156 a c sep w
open Go.RowKit in
/-- strings.Join: "Join concatenates the elements of its first argument to create a single string. The separator string sep is placed between elements in the resulting string.": HOWEVER MANY ELEMENTS. Below the heap's end the world is as it was. (LAID: no walk: one application.) -/
theorem Tryz.strings_Join (bk o c : Nat) (xs : List ByteArray) (sep : ByteArray) (w : World) (hcells : ∀ (j : Nat) x, xs[j]? = some x → w.cell? ⟨bk, o + j, none⟩ = some (.string x)) (hbk : bk < w.heap.size) (hN : xs.length ≤ 140737488355328) (hcap : xs.length ≤ c) (hlen : (Lib.join (xs.map (·.data.toList)) sep.data.toList).length ≤ 140737488355328) :
    Calls Tryz.prog 94 #[.slice (some ⟨bk, o, none⟩) xs.length c, .string sep] w fun e w' => e = .returned (.string ⟨(Lib.join (xs.map (·.data.toList)) sep.data.toList).toArray⟩) ∧ Below w.heap.size w w' := Any.strings_Join Tryz.lays156 Tryz.Builder_Extra_156 bk o c xs sep w hcells hbk hN hcap hlen
def Tryz.lays103_ren : Go.Shelf.Ren := ⟨fun | 103 => 99 | 210 => 128 | 206 => 151 | n => n, fun | 9 => 9 | 4 => 4 | 24 => 184 | 3 => 3 | n => n, fun | n => n⟩
theorem Tryz.lays103 : Go.Proofs.Lays.n103 Tryz.prog Tryz.lays103_ren := {
  mixed := by kernel_rfl
  f103 := Tryz.func99.trans (congrArg some (by kernel_rfl))
  f206 := Tryz.func151.trans (congrArg some (by kernel_rfl))
  f210 := Tryz.func128.trans (congrArg some (by kernel_rfl))
  t3 := Tryz.underlying3
  a3 := Tryz.isAgg3
  z3 := Tryz.sizeOf3
  v3 := Tryz.zeroValue3
  t4 := Tryz.underlying4
  a4 := Tryz.isAgg4
  z4 := Tryz.sizeOf4
  v4 := Tryz.zeroValue4
  t9 := Tryz.underlying9
  a9 := Tryz.isAgg9
  z9 := Tryz.sizeOf9
  v9 := Tryz.zeroValue9
  t24 := Tryz.underlying184
  a24 := Tryz.isAgg184
  z24 := Tryz.sizeOf184
  v24 := Tryz.zeroValue184 }
open Go.RowKit in
/-- strings.CutPrefix: "CutPrefix returns s without the provided leading prefix string and reports whether it found the prefix. If s doesn't start with prefix, CutPrefix returns s, false. If prefix is the empty string, CutPrefix returns s, true.": IT RETURNS '(Lib.trimPrefix s p, Lib.hasPrefix s p)'; the world is as it was. (LAID: no walk: one application.) -/
theorem Tryz.strings_CutPrefix (s p : ByteArray) (w : World) :
    Calls Tryz.prog 99 #[.string s, .string p] w fun e w' => e = .returned (.tuple #[.string ⟨(Lib.trimPrefix s.data.toList p.data.toList).toArray⟩, .bool (Lib.hasPrefix s.data.toList p.data.toList)]) ∧ w' = w := Any.strings_CutPrefix Tryz.lays103 s p w
def Tryz.lays160_ren : Go.Shelf.Ren := ⟨fun | 160 => 98 | 232 => 122 | 231 => 121 | 227 => 123 | 234 => 125 | 233 => 124 | 236 => 127 | 235 => 126 | 228 => 147 | 271 => 150 | 151 => 149 | 197 => 148 | 120 => 163 | 152 => 162 | 260 => 161 | 137 => 167 | 119 => 168 | 224 => 169 | 225 => 170 | 217 => 171 | 266 => 172 | n => n, fun | 9 => 9 | 4 => 4 | 3 => 3 | 5 => 5 | 117 => 212 | 116 => 211 | 0 => 0 | 124 => 215 | 21 => 21 | 105 => 234 | 46 => 204 | 119 => 252 | 139 => 255 | 138 => 254 | n => n, fun | 3 => 1 | 4 => 2 | n => n⟩
theorem Tryz.lays160 : Go.Proofs.Lays.n160 Tryz.prog Tryz.lays160_ren := {
  mixed := by kernel_rfl
  f119 := Tryz.func168.trans (congrArg some (by kernel_rfl))
  f120 := Tryz.func163.trans (congrArg some (by kernel_rfl))
  f137 := Tryz.func167.trans (congrArg some (by kernel_rfl))
  f151 := Tryz.func149.trans (congrArg some (by kernel_rfl))
  f152 := Tryz.func162.trans (congrArg some (by kernel_rfl))
  f160 := Tryz.func98.trans (congrArg some (by kernel_rfl))
  f197 := Tryz.func148.trans (congrArg some (by kernel_rfl))
  f217 := Tryz.func171.trans (congrArg some (by kernel_rfl))
  f224 := Tryz.func169.trans (congrArg some (by kernel_rfl))
  f225 := Tryz.func170.trans (congrArg some (by kernel_rfl))
  f227 := Tryz.func123.trans (congrArg some (by kernel_rfl))
  f228 := Tryz.func147.trans (congrArg some (by kernel_rfl))
  f231 := Tryz.func121.trans (congrArg some (by kernel_rfl))
  f232 := Tryz.func122.trans (congrArg some (by kernel_rfl))
  f233 := Tryz.func124.trans (congrArg some (by kernel_rfl))
  f234 := Tryz.func125.trans (congrArg some (by kernel_rfl))
  f235 := Tryz.func126.trans (congrArg some (by kernel_rfl))
  f236 := Tryz.func127.trans (congrArg some (by kernel_rfl))
  f260 := Tryz.func161.trans (congrArg some (by kernel_rfl))
  f266 := Tryz.func172.trans (congrArg some (by kernel_rfl))
  f271 := Tryz.func150.trans (congrArg some (by kernel_rfl))
  t0 := Tryz.underlying0
  a0 := Tryz.isAgg0
  z0 := Tryz.sizeOf0
  v0 := Tryz.zeroValue0
  t3 := Tryz.underlying3
  a3 := Tryz.isAgg3
  z3 := Tryz.sizeOf3
  v3 := Tryz.zeroValue3
  t4 := Tryz.underlying4
  a4 := Tryz.isAgg4
  z4 := Tryz.sizeOf4
  v4 := Tryz.zeroValue4
  t5 := Tryz.underlying5
  a5 := Tryz.isAgg5
  z5 := Tryz.sizeOf5
  v5 := Tryz.zeroValue5
  t9 := Tryz.underlying9
  a9 := Tryz.isAgg9
  z9 := Tryz.sizeOf9
  v9 := Tryz.zeroValue9
  t21 := Tryz.underlying21
  a21 := Tryz.isAgg21
  z21 := Tryz.sizeOf21
  v21 := Tryz.zeroValue21
  t46 := Tryz.underlying204
  a46 := Tryz.isAgg204
  z46 := Tryz.sizeOf204
  v46 := Tryz.zeroValue204
  t105 := Tryz.underlying234
  a105 := Tryz.isAgg234
  z105 := Tryz.sizeOf234
  v105 := Tryz.zeroValue234
  t116 := Tryz.underlying211
  a116 := Tryz.isAgg211
  z116 := Tryz.sizeOf211
  t117 := Tryz.underlying212
  a117 := Tryz.isAgg212
  z117 := Tryz.sizeOf212
  v117 := Tryz.zeroValue212
  t119 := Tryz.underlying252
  a119 := Tryz.isAgg252
  z119 := Tryz.sizeOf252
  t124 := Tryz.underlying215
  a124 := Tryz.isAgg215
  z124 := Tryz.sizeOf215
  v124 := Tryz.zeroValue215
  t138 := Tryz.underlying254
  a138 := Tryz.isAgg254
  z138 := Tryz.sizeOf254
  v138 := Tryz.zeroValue254
  t139 := Tryz.underlying255
  a139 := Tryz.isAgg255
  z139 := Tryz.sizeOf255
  v139 := Tryz.zeroValue255
  g3 := by kernel_rfl
  g4 := by kernel_rfl }
def Tryz.keys53_ren : Go.Shelf.Ren := ⟨fun | 7 => 53 | 10 => 83 | n => n, fun | 23 => 94 | 26 => 9 | 3 => 117 | 28 => 115 | 0 => 0 | 27 => 114 | 33 => 134 | 4 => 4 | n => n, fun | n => n⟩
theorem Tryz.keys53 : Go.Proofs.SlLaysZ.n7 Tryz.prog Tryz.keys53_ren := {
  mixed := by kernel_rfl
  f7 := ⟨Tryz.f53.name, by decide, Tryz.func53.trans (congrArg some (by kernel_rfl))⟩
  f10 := ⟨Tryz.f83.name, by decide, Tryz.func83.trans (congrArg some (by kernel_rfl))⟩
  t0 := Tryz.underlying0
  a0 := Tryz.isAgg0
  z0 := Tryz.sizeOf0
  v0 := Tryz.zeroValue0
  t4 := Tryz.underlying4
  a4 := Tryz.isAgg4
  z4 := Tryz.sizeOf4
  v4 := Tryz.zeroValue4
  t23 := Tryz.underlying94
  a23 := Tryz.isAgg94
  z23 := Tryz.sizeOf94
  v23 := Tryz.zeroValue94
  t26 := Tryz.underlying9
  a26 := Tryz.isAgg9
  z26 := Tryz.sizeOf9
  v26 := Tryz.zeroValue9
  t27 := Tryz.underlying114
  a27 := Tryz.isAgg114
  z27 := Tryz.sizeOf114
  v27 := Tryz.zeroValue114
  t28 := Tryz.underlying115
  a28 := Tryz.isAgg115
  z28 := Tryz.sizeOf115
  v28 := Tryz.zeroValue115
  t33 := Tryz.underlying134
  a33 := Tryz.isAgg134
  z33 := Tryz.sizeOf134
  v33 := Tryz.zeroValue134 }
def Tryz.sorted52_ren : Go.Shelf.Ren := ⟨fun | 6 => 52 | 8 => 81 | 9 => 82 | 11 => 110 | 13 => 112 | 12 => 111 | 23 => 142 | 24 => 143 | 14 => 133 | 15 => 134 | 16 => 135 | 17 => 136 | 18 => 137 | 19 => 138 | 20 => 139 | 21 => 140 | 22 => 141 | 25 => 153 | 26 => 154 | 27 => 155 | 28 => 156 | 29 => 157 | 30 => 158 | 31 => 165 | n => n, fun | 26 => 9 | 28 => 115 | 24 => 112 | 0 => 0 | 3 => 3 | 37 => 204 | 48 => 227 | 50 => 216 | 4 => 4 | 40 => 220 | 39 => 219 | 45 => 123 | 5 => 5 | 9 => 9 | 51 => 237 | 55 => 241 | 57 => 247 | 58 => 248 | 33 => 134 | n => n, fun | n => n⟩
theorem Tryz.sorted52 : Go.Proofs.SlLaysZ.n6 Tryz.prog Tryz.sorted52_ren := {
  mixed := by kernel_rfl
  f6 := ⟨Tryz.f52.name, by decide, Tryz.func52.trans (congrArg some (by kernel_rfl))⟩
  f8 := ⟨Tryz.f81.name, by decide, Tryz.func81.trans (congrArg some (by kernel_rfl))⟩
  f11 := ⟨Tryz.f110.name, by decide, Tryz.func110.trans (congrArg some (by kernel_rfl))⟩
  t0 := Tryz.underlying0
  a0 := Tryz.isAgg0
  z0 := Tryz.sizeOf0
  v0 := Tryz.zeroValue0
  t24 := Tryz.underlying112
  a24 := Tryz.isAgg112
  z24 := Tryz.sizeOf112
  v24 := Tryz.zeroValue112
  t26 := Tryz.underlying9
  a26 := Tryz.isAgg9
  z26 := Tryz.sizeOf9
  v26 := Tryz.zeroValue9
  t28 := Tryz.underlying115
  a28 := Tryz.isAgg115
  z28 := Tryz.sizeOf115
  v28 := Tryz.zeroValue115
  i26 := by kernel_rfl }
def Tryz.sort82_ren : Go.Shelf.Ren := ⟨fun | 6 => 82 | 8 => 112 | 9 => 111 | 19 => 142 | 20 => 143 | 21 => 133 | 22 => 134 | 23 => 135 | 24 => 136 | 25 => 137 | 26 => 138 | 27 => 139 | 28 => 140 | 29 => 141 | 36 => 153 | 31 => 154 | 32 => 155 | 37 => 156 | 38 => 157 | 39 => 158 | 41 => 165 | n => n, fun | 27 => 112 | 29 => 9 | 3 => 3 | 32 => 204 | 26 => 112 | 0 => 0 | 44 => 227 | 46 => 216 | 4 => 4 | 36 => 220 | 35 => 219 | 41 => 123 | 5 => 5 | 9 => 9 | 53 => 237 | 57 => 241 | 63 => 247 | 64 => 248 | n => n, fun | n => n⟩
theorem Tryz.sort82 : Go.Proofs.SlLaysM.n6 Tryz.prog Tryz.sort82_ren := {
  mixed := by kernel_rfl
  f6 := ⟨Tryz.f82.name, by decide, Tryz.func82.trans (congrArg some (by kernel_rfl))⟩
  f8 := Tryz.func112.trans (congrArg some (by kernel_rfl))
  f9 := ⟨Tryz.f111.name, by decide, Tryz.func111.trans (congrArg some (by kernel_rfl))⟩
  f19 := Tryz.func142.trans (congrArg some (by kernel_rfl))
  f20 := Tryz.func143.trans (congrArg some (by kernel_rfl))
  f21 := ⟨Tryz.f133.name, by decide, Tryz.func133.trans (congrArg some (by kernel_rfl))⟩
  f22 := ⟨Tryz.f134.name, by decide, Tryz.func134.trans (congrArg some (by kernel_rfl))⟩
  f23 := ⟨Tryz.f135.name, by decide, Tryz.func135.trans (congrArg some (by kernel_rfl))⟩
  f24 := ⟨Tryz.f136.name, by decide, Tryz.func136.trans (congrArg some (by kernel_rfl))⟩
  f25 := ⟨Tryz.f137.name, by decide, Tryz.func137.trans (congrArg some (by kernel_rfl))⟩
  f26 := ⟨Tryz.f138.name, by decide, Tryz.func138.trans (congrArg some (by kernel_rfl))⟩
  f27 := ⟨Tryz.f139.name, by decide, Tryz.func139.trans (congrArg some (by kernel_rfl))⟩
  f28 := ⟨Tryz.f140.name, by decide, Tryz.func140.trans (congrArg some (by kernel_rfl))⟩
  f29 := ⟨Tryz.f141.name, by decide, Tryz.func141.trans (congrArg some (by kernel_rfl))⟩
  f31 := Tryz.func154.trans (congrArg some (by kernel_rfl))
  f32 := Tryz.func155.trans (congrArg some (by kernel_rfl))
  f36 := ⟨Tryz.f153.name, by decide, Tryz.func153.trans (congrArg some (by kernel_rfl))⟩
  f37 := ⟨Tryz.f156.name, by decide, Tryz.func156.trans (congrArg some (by kernel_rfl))⟩
  f38 := ⟨Tryz.f157.name, by decide, Tryz.func157.trans (congrArg some (by kernel_rfl))⟩
  f39 := ⟨Tryz.f158.name, by decide, Tryz.func158.trans (congrArg some (by kernel_rfl))⟩
  f41 := ⟨Tryz.f165.name, by decide, Tryz.func165.trans (congrArg some (by kernel_rfl))⟩
  t0 := Tryz.underlying0
  a0 := Tryz.isAgg0
  z0 := Tryz.sizeOf0
  v0 := Tryz.zeroValue0
  t3 := Tryz.underlying3
  a3 := Tryz.isAgg3
  z3 := Tryz.sizeOf3
  v3 := Tryz.zeroValue3
  t4 := Tryz.underlying4
  a4 := Tryz.isAgg4
  z4 := Tryz.sizeOf4
  v4 := Tryz.zeroValue4
  t5 := Tryz.underlying5
  a5 := Tryz.isAgg5
  z5 := Tryz.sizeOf5
  v5 := Tryz.zeroValue5
  t9 := Tryz.underlying9
  a9 := Tryz.isAgg9
  z9 := Tryz.sizeOf9
  v9 := Tryz.zeroValue9
  t26 := Tryz.underlying112
  a26 := Tryz.isAgg112
  z26 := Tryz.sizeOf112
  v26 := Tryz.zeroValue112
  t27 := Tryz.underlying112
  a27 := Tryz.isAgg112
  z27 := Tryz.sizeOf112
  v27 := Tryz.zeroValue112
  t29 := Tryz.underlying9
  a29 := Tryz.isAgg9
  z29 := Tryz.sizeOf9
  v29 := Tryz.zeroValue9
  t32 := Tryz.underlying204
  a32 := Tryz.isAgg204
  z32 := Tryz.sizeOf204
  v32 := Tryz.zeroValue204
  t35 := Tryz.underlying219
  a35 := Tryz.isAgg219
  z35 := Tryz.sizeOf219
  v35 := Tryz.zeroValue219
  t36 := Tryz.underlying220
  a36 := Tryz.isAgg220
  z36 := Tryz.sizeOf220
  v36 := Tryz.zeroValue220
  t41 := Tryz.underlying123
  a41 := Tryz.isAgg123
  z41 := Tryz.sizeOf123
  v41 := Tryz.zeroValue123
  t44 := Tryz.underlying227
  a44 := Tryz.isAgg227
  z44 := Tryz.sizeOf227
  v44 := Tryz.zeroValue227
  t46 := Tryz.underlying216
  a46 := Tryz.isAgg216
  z46 := Tryz.sizeOf216
  v46 := Tryz.zeroValue216
  t53 := Tryz.underlying237
  a53 := Tryz.isAgg237
  z53 := Tryz.sizeOf237
  v53 := Tryz.zeroValue237
  t57 := Tryz.underlying241
  a57 := Tryz.isAgg241
  z57 := Tryz.sizeOf241
  v57 := Tryz.zeroValue241
  t63 := Tryz.underlying247
  a63 := Tryz.isAgg247
  z63 := Tryz.sizeOf247
  v63 := Tryz.zeroValue247
  t64 := Tryz.underlying248
  a64 := Tryz.isAgg248
  z64 := Tryz.sizeOf248
  v64 := Tryz.zeroValue248 }
open Go.RowKit in
/-- (*strings.Builder).WriteString, out of the laying of strings.Join. -/
theorem Tryz.Builder_WriteString (B b : Nat) (bs : List Value) (s : ByteArray) (w : World) (h : Lib.IsBuilder 166 5 B b bs w) (hlen : bs.length + s.size ≤ 140737488355328) (hBw : B ≤ w.heap.size) :
    Calls Tryz.prog 87 #[.pointer (some ⟨b, 0, none⟩), .string s] w fun e w' => e = .returned (.tuple #[.int .i64 s.size, .nilIface]) ∧ (Lib.BuilderAt 166 5 B b (.pointer (some ⟨b, 0, none⟩)) (bs ++ Lib.strCells s) w' ∧ Below B w w') :=
  Any.Builder_WriteString { Tryz.lays156 with } Tryz.Builder_Extra_156 B b bs s w h hlen hBw
open Go.RowKit in
/-- strings.Trim at an ASCII cutset. -/
theorem Tryz.strings_Trim (s cutset : ByteArray) (w : World) (hs : s.size ≤ 9223372036854775807) (hcs : cutset.size < 4294967281) (hascii : ∀ (j : Nat) (b : UInt8), cutset.data.toList[j]? = some b → b.toNat < 128) :
    Calls Tryz.prog 98 #[.string s, .string cutset] w fun e w' => e = .returned (.string ⟨(Lib.trimS s.data.toList cutset.data.toList).toArray⟩) ∧ Below w.heap.size w w' :=
  Any.strings_Trim_laid Tryz.lays160 (by kernel_rfl) s cutset w hs hcs hascii

open Go.RowKit Go.Maps Go.Sort Go.Shelf


/-- slices.Sort's two contracts at this dump, at the fence that asks nothing. -/
theorem Tryz.sorts52 (m : Nat) : AnyZ.SortsIn Tryz.prog Tryz.sorted52_ren Fence.wide m :=
  ⟨fun blk off cap ss W hH hblk hsz => callsIn_wide.2 (AnyM.slices_Sort_string Tryz.sort82 blk off cap ss W hH hblk hsz),
   fun p cap W => callsIn_wide.2 (AnyM.slices_Sort_string_none Tryz.sort82 p cap W)⟩

/-- **maps.Keys[map[string]*headgate/disk.file,string,*headgate/disk.file], at whatever map, the nil one too:** a function value over ONE NEW BLOCK, which holds the map. -/
theorem Tryz.maps_Keys_53 (mb : Option Nat) (W : World) : CallsIn Fence.wide 5 Tryz.prog 53 #[.map mb] W fun e w' => e = .returned (.func (.func 83) #[] #[.pointer (some ⟨W.heap.size, 0, none⟩)]) ∧ w' = W.alloc (.cells #[.map mb] 94) :=
  AnyZ.keys_in Tryz.keys53 Fence.wide 5 trivial rfl mb W

set_option maxHeartbeats 1000000 in
/-- **slices.Sorted[string] AT WHAT maps.Keys[map[string]*headgate/disk.file,string,*headgate/disk.file] HANDED BACK FOR A MAP THAT IS NOT nil** ('w': the world AHEAD of maps.Keys' call): A NEW SLICE THAT HOLDS THE MAP's KEYS, SORTED; nil just where it has none; nothing that lay before has turned. -/
theorem Tryz.slices_Sorted_keys_52_53 {H : Type} (b nn : Nat) (D0 : DataW H) (R : Value → Option (DataW H × List MemPlace)) (w : World) (hown : w.ownsMap Tryz.prog 9 R b nn D0) (hmax : Maps.size D0 ≤ maxLen) (hbytes : Maps.size D0 * 16 ≤ 140737488355328) :
    CallsIn Fence.wide 5 Tryz.prog 52 #[.func (.func 83) #[] #[.pointer (some ⟨w.heap.size, 0, none⟩)]] (w.alloc (.cells #[.map (some b)] 94)) fun e w' => ∃ (v : Value) (ss : List (List UInt8)), e = .returned v ∧ ss.Perm (strKeys D0) ∧
      w'.ownsRow (w.alloc (.cells #[.map (some b)] 94)).heap.size 9 1 v ss.length ((ss.mergeSort (fun x y => decide (x ≤ y))).map encStr) ∧ (v = .slice none 0 0 ↔ ss = []) ∧ Below (w.alloc (.cells #[.map (some b)] 94)).heap.size (w.alloc (.cells #[.map (some b)] 94)) w' := by
  have hbl := hown.lt
  have hseq : SeqGives Fence.wide 2 Tryz.prog 83 #[.pointer (some ⟨w.heap.size, 0, none⟩)] encStr (fun ss => ss.Perm (strKeys D0)) (Maps.size D0) (w.alloc (.cells #[.map (some b)] 94)) :=
    AnyZ.keys_gives (ρ := Tryz.keys53_ren) { Tryz.keys53 with } Fence.wide _ trivial rfl (by omega) w.heap.size b nn D0 _ (by simp) (by simp) (by
      obtain ⟨es, clock, hb, Ft, hs, hD⟩ := hown
      exact ⟨es, clock, (Below.heap_alloc _ _ b hbl).trans hb, Ft, hs, hD⟩)
  exact AnyZ.sorted_in Tryz.sorted52 Fence.wide 5 trivial trivial trivial trivial rfl (by omega) (Tryz.sorts52 _) (enters_of Tryz.func82 (by kernel_rfl) rfl) 83 #[.pointer (some ⟨w.heap.size, 0, none⟩)] trivial (enters_of Tryz.func83 (by kernel_rfl) rfl) _ _ hmax hbytes _ hseq

set_option maxHeartbeats 1000000 in
/-- **.. AND FOR THE nil MAP: nil.** -/
theorem Tryz.slices_Sorted_keys_nil_52_53 (w : World) :
    CallsIn Fence.wide 5 Tryz.prog 52 #[.func (.func 83) #[] #[.pointer (some ⟨w.heap.size, 0, none⟩)]] (w.alloc (.cells #[.map none] 94)) fun e w' => ∃ (v : Value) (ss : List (List UInt8)), e = .returned v ∧ ss = [] ∧
      w'.ownsRow (w.alloc (.cells #[.map none] 94)).heap.size 9 1 v ss.length ((ss.mergeSort (fun x y => decide (x ≤ y))).map encStr) ∧ (v = .slice none 0 0 ↔ ss = []) ∧ Below (w.alloc (.cells #[.map none] 94)).heap.size (w.alloc (.cells #[.map none] 94)) w' := by
  have hseq : SeqGives Fence.wide 2 Tryz.prog 83 #[.pointer (some ⟨w.heap.size, 0, none⟩)] encStr (fun ss : List (List UInt8) => ss = []) 0 (w.alloc (.cells #[.map none] 94)) :=
    AnyZ.keys_gives_nil (ρ := Tryz.keys53_ren) { Tryz.keys53 with } Fence.wide _ trivial rfl w.heap.size _ (by simp) (by simp)
  exact AnyZ.sorted_in Tryz.sorted52 Fence.wide 5 trivial trivial trivial trivial rfl (by omega) (Tryz.sorts52 _) (enters_of Tryz.func82 (by kernel_rfl) rfl) 83 #[.pointer (some ⟨w.heap.size, 0, none⟩)] trivial (enters_of Tryz.func83 (by kernel_rfl) rfl) _ 0 (Nat.zero_le _) (by omega) _ hseq




end Go.Proofs

namespace Go.Proofs.YtgjkjkeeblbjlaaGreatDoor
open Go.RowKit

theorem putL_len (n : Int) (h0 : -9223372036854775808 ≤ n) (h1 : n ≤ 9223372036854775807) : (putL n).length ≤ 10 := leb_len10 (zig_lt h0 h1)

/-- The encoding of a text. -/
def putTextL (s : List UInt8) : List UInt8 := putL s.length ++ s

set_option maxHeartbeats 400000 in
theorem putText_any (s : ByteArray) (w : World) (hs : s.size ≤ 140737488355328) :
    Calls Tryz.prog 115 #[.string s] w fun e w' => e = .returned (.string (bs (putTextL (tl s)))) ∧ Below w.heap.size w w' := by
  have hl : (bs (putL s.size)).size ≤ 10 := putL_len _ (by omega) (by omega)
  have hsum : (bs (putL s.size)).size + s.size ≤ 9223372036854775807 := by omega
  go_enter Tryz.func115, Tryz.ntmps115
  go_wp2_with fail
  refine (put_any _ _ (by omega) (by omega)).mono ?_
  rintro e w1 ⟨rfl, hb⟩
  go_wp2
  go_ret
  refine ⟨?_, hb⟩
  show Ending.returned (.string (bs (putL s.size) ++ s)) = _
  rw [← bs_tl s, bs_append, bs_size, tl_bs]
  rfl

/-- A text read out of bytes. -/
def takeTextL (l : List UInt8) (most : Int) : Option (List UInt8 × List UInt8) :=
  match takeL l 0 0 with
  | none => none
  | some (u, r) => if unzig u < 0 ∨ most < unzig u ∨ (r.length : Int) < unzig u then none else some (r.take (unzig u).toNat, r.drop (unzig u).toNat)

def takeTextV : Option (List UInt8 × List UInt8) → Value
  | none => .tuple #[.string (bs []), .string (bs []), .int .i64 2]
  | some (t, r) => .tuple #[.string (bs t), .string (bs r), .int .i64 0]

set_option maxHeartbeats 1000000 in
theorem takeText_any (s : ByteArray) (most : Int) (w : World) (hs : s.size ≤ 140737488355328) :
    Calls Tryz.prog 107 #[.string s, .int .i64 most] w fun e w' => e = .returned (takeTextV (takeTextL (tl s) most)) ∧ Below w.heap.size w w' := by
  cases ht : takeL (tl s) 0 0 with
  | none =>
    have HF : Hid (takeTextV (takeTextL (tl s) most) = .tuple #[.string (bs []), .string (bs []), .int .i64 2]) := by
      unfold takeTextL; rw [ht]; exact hid rfl
    have HT := hid ht
    clear ht
    go_enter Tryz.func107, Tryz.ntmps107
    go_wp2_with fail
    refine (take_none s _ hs HT.out).mono ?_
    rintro e w1 ⟨rfl, hb⟩
    go_wp2
    go_ret3
    exact ⟨by rw [HF.out]; rfl, hb⟩
  | some ur =>
    obtain ⟨u, r⟩ := ur
    have HT := hid ht
    have hbs : (bs r).size = r.length := rfl
    have hbound : (takeTextL (tl s) most) = if unzig u < 0 ∨ most < unzig u ∨ (r.length : Int) < unzig u then none else some (r.take (unzig u).toNat, r.drop (unzig u).toNat) := by
      unfold takeTextL; rw [ht]
    clear ht
    by_cases hc : unzig u < 0 ∨ most < unzig u ∨ (r.length : Int) < unzig u
    · have HF : Hid (takeTextV (takeTextL (tl s) most) = .tuple #[.string (bs []), .string (bs []), .int .i64 2]) := by
        rw [hbound, if_pos hc]; exact hid rfl
      clear hbound
      have htk := take_some s u r w hs HT.out
      generalize unzig u = n at *
      have HK := hid htk
      clear htk
      by_cases h1 : n < 0
      · clear hc
        go_enter Tryz.func107, Tryz.ntmps107
        go_wp2_with fail
        refine HK.out.mono ?_
        rintro e w1 ⟨rfl, hb⟩
        go_wp2
        go_ret3
        exact ⟨by rw [HF.out]; rfl, hb⟩
      · by_cases h2 : most < n
        · clear hc
          go_enter Tryz.func107, Tryz.ntmps107
          go_wp2_with fail
          refine HK.out.mono ?_
          rintro e w1 ⟨rfl, hb⟩
          go_wp2
          go_ret3
          exact ⟨by rw [HF.out]; rfl, hb⟩
        · have h3 : (r.length : Int) < n := by omega
          clear hc
          go_enter Tryz.func107, Tryz.ntmps107
          go_wp2_with fail
          refine HK.out.mono ?_
          rintro e w1 ⟨rfl, hb⟩
          go_wp2
          go_ret3
          exact ⟨by rw [HF.out]; rfl, hb⟩
    · have HF : Hid (takeTextV (takeTextL (tl s) most) = .tuple #[.string (bs (r.take (unzig u).toNat)), .string (bs (r.drop (unzig u).toNat)), .int .i64 0]) := by
        rw [hbound, if_neg hc]; exact hid rfl
      clear hbound
      have htk := take_some s u r w hs HT.out
      generalize unzig u = n at *
      have HK := hid htk
      clear htk
      obtain ⟨m, rfl⟩ : ∃ m : Nat, n = m := ⟨n.toNat, by omega⟩
      have h1 : ¬ (m : Int) < 0 := by omega
      have h2 : ¬ most < (m : Int) := by omega
      have h3 : ¬ (r.length : Int) < (m : Int) := by omega
      have h4 : m ≤ (bs r).size := by rw [hbs]; omega
      have e1 := extract_take (bs r) m
      have e2 := extract_drop (bs r) m
      rw [tl_bs] at e1 e2
      rw [hbs] at e2
      clear hc
      go_enter Tryz.func107, Tryz.ntmps107
      go_wp2_with fail
      refine HK.out.mono ?_
      rintro e w1 ⟨rfl, hb⟩
      go_wp2
      go_quiet (fail)
      go_wp2
      go_ret3
      exact ⟨by rw [HF.out]; rfl, hb.trans (bel_drewN _ _ _)⟩

/-- So many integers read out of bytes. -/
def takeAllL : Nat → List UInt8 → Option (List Int × List UInt8)
  | 0, l => some ([], l)
  | n + 1, l => match takeL l 0 0 with
    | none => none
    | some (u, r) => match takeAllL n r with
      | none => none
      | some (xs, r') => some (unzig u :: xs, r')

theorem Tryz.infoInt : (Tryz.prog.info? 3).map (fun i => (i.zero, i.size, i.bytes)) = some (some (.int .i64 0), 1, 8) := by kernel_rfl

def TakeAllPost (s : ByteArray) (n : Nat) (w : World) (e : Ending) (w' : World) : Prop :=
  Below w.heap.size w w' ∧ match takeAllL n (tl s) with
  | none => e = .returned (.tuple #[.slice none 0 0, .string ⟨#[]⟩, .int .i64 2])
  | some (xs, r) => ∃ v, e = .returned (.tuple #[v, .string (bs r), .int .i64 0]) ∧ w'.ownsRow w.heap.size 3 1 v n (xs.map (Value.int .i64)) ∧ xs.length = n

def withPre (xs : List Int) : Option (List Int × List UInt8) → Option (List Int × List UInt8)
  | none => none
  | some (ys, r) => some (xs ++ ys, r)

theorem takeAllL_step (n : Nat) (l : List UInt8) (u : Nat) (r : List UInt8) (xs : List Int) (ht : takeL l 0 0 = some (u, r)) :
    withPre xs (takeAllL (n + 1) l) = withPre (xs ++ [unzig u]) (takeAllL n r) := by
  rw [takeAllL]
  simp only [ht]
  cases takeAllL n r with
  | none => rfl
  | some yr => simp [withPre]

def TakeAllRel (s : ByteArray) (n : Nat) (w : World) (a v c : Value) (wr : World) : Prop :=
  ∃ (k : Nat) (s' : ByteArray) (xs : List Int), k ≤ n ∧ c = .int .i64 k ∧ a = .string s' ∧ s'.size ≤ s.size ∧ xs.length = k ∧
    wr.ownsRow w.heap.size 3 1 v k (xs.map (Value.int .i64)) ∧ Below w.heap.size w wr ∧
    takeAllL n (tl s) = withPre xs (takeAllL (n - k) (tl s'))

theorem takeL_len : ∀ (l : List UInt8) (k u v : Nat) (r : List UInt8), takeL l k u = some (v, r) → r.length < l.length := by
  intro l
  induction l with
  | nil => intro k u v r h; simp [takeL] at h
  | cons c l ih =>
    intro k u v r h
    rw [takeL] at h
    split at h
    · cases h
    · split at h
      · have := ih _ _ _ _ h; simp; omega
      · split at h
        · cases h
        · simp at h; obtain ⟨_, rfl⟩ := h; simp

set_option maxHeartbeats 1000000 in
theorem takeAll_any (s : ByteArray) (n : Nat) (w : World) (hs : s.size ≤ 140737488355328) (hn : n ≤ 64) :
    Calls Tryz.prog 75 #[.string s, .int .i64 n] w (TakeAllPost s n w) := by
  obtain ⟨i0, hi, hz0, hz1, hz2⟩ := info_parts Tryz.infoInt
  go_enter Tryz.func75, Tryz.ntmps75
  go_wp2_with fail
  go_loopw [0, 7, 18] (fun a v c wr => TakeAllRel s n w a v c wr) (fun _ _ c _ => n - (intOf c).toNat)
  case atStart =>
    refine ⟨0, s, [], by omega, rfl, rfl, Nat.le_refl _, rfl, World.ownsRow_nil _ _ _ _, Below.refl _ _, ?_⟩
    rw [Nat.sub_zero]
    cases takeAllL n (tl s) <;> rfl
  case round =>
    obtain ⟨k, s', xs, hk, rfl, rfl, hs', hxs, hown, hb, heq⟩ := hrel
    have HEQ := hid heq
    have HXS := hid hxs
    clear heq hxs
    by_cases hlt : k < n
    · cases ht : takeL (tl s') 0 0 with
      | none =>
        have HF : Hid (takeAllL n (tl s) = none) := by
          have h := HEQ.out
          rw [show n - k = (n - k - 1) + 1 from by omega, takeAllL, ht] at h
          exact h
        have HT := hid ht
        clear ht
        go_wp2_with fail
        refine (take_none s' _ (by omega) HT.out).mono ?_
        rintro e w1 ⟨rfl, hb1⟩
        go_wp2
        go_ret3
        exact ⟨hb.trans (hb1.mono hb.size), by rw [HF.out]; rfl⟩
      | some ur =>
        obtain ⟨u, r⟩ := ur
        have HT := hid ht
        have hlen := takeL_len _ _ _ _ _ ht
        rw [tl_len] at hlen
        have HF : Hid (takeAllL n (tl s) = withPre (xs ++ [unzig u]) (takeAllL (n - (k + 1)) r)) := by
          have h := HEQ.out
          rw [show n - k = (n - (k + 1)) + 1 from by omega, takeAllL_step _ _ _ _ _ ht] at h
          exact hid h
        clear ht
        go_wp2_with fail
        refine (take_some s' u r _ (by omega) HT.out).mono ?_
        rintro e w1 ⟨rfl, hb1⟩
        generalize unzig u = x at *
        have hown1 : w1.ownsRow w.heap.size 3 1 u7 k (xs.map (Value.int .i64)) := own_bel hown hb1
        have hsz := hb.size
        have hsz1 := hb1.size
        go_wp2_with (at_builtin; refine wpList_append_own _ rfl _ _ 47 rfl w.heap.size 3 i0 (.int .i64 0) 1 8 Tryz.underlying47 hi hz0 hz1 hz2 rfl (by decide) _ _ _ rfl (hown1.alloc _) ⟨w1.heap.size, 0, none⟩ 1 1 [.int .i64 x] rfl rfl ?c1 ?c2 ?c3 ?c4 ?c5 ?_)
        case c1 => exact cell_one_new _ _ _
        case c2 => simp [Value.oneCell']
        case c3 => unfold maxLen; omega
        case c4 => omega
        case c5 => simp; omega
        intro v' w2 hown2 hgrow _
        go_wp2
        go_roundw
        case rel =>
          refine ⟨k + 1, bs r, xs ++ [x], by omega, by go_num, rfl, ?_, by simp [HXS.out], ?_, ?_, by rw [tl_bs]; exact HF.out⟩
          · show r.length ≤ s.size; omega
          · rw [List.map_append]; exact hown2
          · exact bel_append ((hb.trans (hb1.mono hsz)).alloc (by omega) _) (hown1.alloc _) (by simp; omega) hgrow
        case measure => simp [intOf]; omega
    · have hkn : k = n := by omega
      have HF : Hid (takeAllL n (tl s) = some (xs, tl s')) := by
        have h := HEQ.out
        rw [show n - k = 0 from by omega, takeAllL] at h
        exact hid (by simpa [withPre] using h)
      go_wp2
      go_ret3
      refine ⟨hb, ?_⟩
      rw [HF.out]
      exact ⟨u7, by rw [bs_tl]; rfl, hkn ▸ hown, by rw [HXS.out, hkn]⟩

/-- The encodings of integers, one behind the other. -/
def putAllL (l : List Int) : List UInt8 := (l.map putL).flatten

theorem putAllL_len (l : List Int) (h : ∀ x ∈ l, -9223372036854775808 ≤ x ∧ x ≤ 9223372036854775807) : (putAllL l).length ≤ 10 * l.length := by
  induction l with
  | nil => simp [putAllL]
  | cons x l ih =>
    have h1 := putL_len x (h x (by simp)).1 (h x (by simp)).2
    have h2 := ih (fun y hy => h y (by simp [hy]))
    simp [putAllL] at h2 ⊢
    omega

def PutAllRel (w : World) (xs : List Int) (c : Value) (wr : World) : Prop :=
  ∃ k : Nat, k ≤ xs.length ∧ c = .int .i64 k ∧ Lib.IsBuilder 166 5 w.heap.size w.heap.size (Lib.byteCells (putAllL (xs.take k))) wr ∧ Below w.heap.size w wr

set_option maxHeartbeats 1000000 in
theorem putAll_any (b c : Nat) (xs : List Int) (w : World) (hxs : xs.length ≤ 1000000) (hr : ∀ x ∈ xs, -9223372036854775808 ≤ x ∧ x ≤ 9223372036854775807)
    (hc : ∀ i, i < xs.length → w.cell? ⟨b, i, none⟩ = some (.int .i64 (xs.getD i 0))) :
    Calls Tryz.prog 88 #[.slice (some ⟨b, 0, none⟩) xs.length c] w fun e w' => e = .returned (.string (bs (putAllL xs))) ∧ Below w.heap.size w w' := by
  have HR := hid hr
  have HC := hid hc
  clear hr hc
  go_enter Tryz.func88, Tryz.ntmps88
  go_wp2_with fail
  go_loopw [8] (fun c wr => PutAllRel w xs c wr) (fun c _ => xs.length - (intOf c).toNat)
  case atStart =>
    exact ⟨0, by omega, rfl, Lib.fresh_isBuilder _ _ _, (Below.refl _ _).alloc (Nat.le_refl _) _⟩
  case round =>
    obtain ⟨k, hk, rfl, hB, hb⟩ := hrel
    have HBu := hid hB
    clear hB
    by_cases hlt : k < xs.length
    · have hcell0 := HC.out k hlt
      have hbl : b < w.heap.size := World.block_lt_of_cell? w _ hcell0
      have hcell : wr.cell? ⟨b, k, none⟩ = some (.int .i64 (xs.getD k 0)) := (hb.cell (p := ⟨b, k, none⟩) hbl).trans hcell0
      clear hcell0
      obtain ⟨x, hx⟩ : ∃ x, x = xs.getD k 0 := ⟨_, rfl⟩
      have hmem : x ∈ xs := by rw [hx, List.getD_eq_getElem?_getD, List.getElem?_eq_getElem hlt]; exact List.getElem_mem hlt
      rw [← hx] at hcell
      have htake : putAllL (xs.take (k + 1)) = putAllL (xs.take k) ++ putL x := by
        rw [List.take_succ_eq_append_getElem hlt]
        have e : xs[k] = x := by rw [hx, List.getD_eq_getElem?_getD, List.getElem?_eq_getElem hlt]; rfl
        rw [e]; simp [putAllL]
      have hr := HR.out x hmem
      have hlen := putAllL_len (xs.take k) (fun y hy => HR.out y (List.mem_of_mem_take hy))
      rw [List.length_take] at hlen
      have HTK := hid htake
      have hpl := putL_len x hr.1 hr.2
      clear hx htake hmem
      go_wp2_with fail
      refine (put_any _ _ hr.1 hr.2).mono ?_
      rintro e w1 ⟨rfl, hb1⟩
      go_wp2_with fail
      have hsz := hb.size
      have hsz1 := hb1.size
      have hmin : min k xs.length ≤ 1000000 := by omega
      refine (Tryz.Builder_WriteString w.heap.size w.heap.size _ (bs (putL x)) w1 (isBuilder_bel HBu.out hb1) (by
        have e1 : (Lib.byteCells (putAllL (xs.take k))).length = (putAllL (xs.take k)).length := by simp [Lib.byteCells]
        have e2 : (bs (putL x)).size = (putL x).length := rfl
        omega) (by omega)).mono ?_
      rintro e w2 ⟨rfl, hB2, hb2⟩
      go_wp2
      go_roundw
      case rel =>
        refine ⟨k + 1, by omega, by go_num, ?_, (hb.trans (hb1.mono hsz)).trans hb2⟩
        rw [HTK.out]
        refine .inr ?_
        have e : Lib.byteCells (putAllL (xs.take k)) ++ Lib.strCells (bs (putL x)) = Lib.byteCells (putAllL (xs.take k) ++ putL x) := by
          simp [Lib.byteCells, Lib.strCells, bs]
        rw [← e]; exact hB2
      case measure => simp [intOf]; omega
    · have hkn : k = xs.length := by omega
      have HK := hid hkn
      clear hkn
      have hsz := hb.size
      go_wp2_with fail
      refine (Tryz.Builder_String_any w.heap.size w.heap.size (putAllL xs) wr (by
        have h := HBu.out
        rw [HK.out, List.take_length] at h
        exact h) (by omega)).mono ?_
      rintro e w2 ⟨rfl, hb2⟩
      go_wp2
      go_ret
      exact ⟨rfl, hb.trans hb2⟩

end Go.Proofs.YtgjkjkeeblbjlaaGreatDoor

namespace Go.Proofs.YtgjkjkeeblbjlaaGreatDoor
open Go.RowKit

/-- One bit. -/
def crcStep (r : Nat) : Nat := if r % 2 = 1 then r / 2 ^^^ 2197175160 else r / 2
/-- So many bits. -/
def crcSteps : Nat → Nat → Nat
  | 0, r => r
  | n + 1, r => crcStep (crcSteps n r)
/-- One byte. -/
def crcByte (r : Nat) (c : UInt8) : Nat := crcSteps 8 (r ^^^ c.toNat)
/-- The check sum of a text whose beginning has the sum c. -/
def crcMore (c : Nat) (l : List UInt8) : Nat := 4294967295 - l.foldl crcByte (4294967295 - c)

theorem crcStep_lt {r : Nat} (h : r < 4294967296) : crcStep r < 4294967296 := by
  unfold crcStep
  split
  · exact Nat.xor_lt_two_pow (n := 32) (by omega) (by omega)
  · omega
theorem crcSteps_lt (n : Nat) {r : Nat} (h : r < 4294967296) : crcSteps n r < 4294967296 := by
  induction n with
  | zero => exact h
  | succ n ih => exact crcStep_lt ih
theorem crcByte_lt {r : Nat} (c : UInt8) (h : r < 4294967296) : crcByte r c < 4294967296 :=
  crcSteps_lt 8 (Nat.xor_lt_two_pow (n := 32) h (by have := c.toNat_lt; omega))
theorem crcFold_lt (l : List UInt8) : ∀ {r : Nat}, r < 4294967296 → l.foldl crcByte r < 4294967296 := by
  induction l with
  | nil => intro r h; exact h
  | cons c l ih => intro r h; exact ih (crcByte_lt c h)
theorem crcMore_lt (c : Nat) (l : List UInt8) : crcMore c l < 4294967296 := by unfold crcMore; omega

theorem crc_and1 (r : Nat) (h : r < 4294967296) : bits BinOp.and IntKind.u32 (r : Int) 1 = ((r % 2 : Nat) : Int) := by
  rw [show (1 : Int) = ((1 : Nat) : Int) from rfl, u32_and_nat _ _ (by omega) (by omega), Nat.and_one_is_mod]

set_option maxHeartbeats 400000 in
theorem crcStep_any (r : Nat) (w : World) (h : r < 4294967296) :
    Calls Tryz.prog 166 #[.int .u32 r] w fun e w' => e = .returned (.int .u32 (crcStep r)) ∧ w = w' := by
  have h1 := crc_and1 r h
  have hx : r % 2 = 1 → bits BinOp.xor IntKind.u32 ((r : Int) / 2) 2197175160 = ((r / 2 ^^^ 2197175160 : Nat) : Int) := by
    intro _
    rw [show (r : Int) / 2 = ((r / 2 : Nat) : Int) from by omega, show (2197175160 : Int) = ((2197175160 : Nat) : Int) from rfl, u32_xor_nat _ _ (by omega) (by omega)]
  by_cases ho : r % 2 = 1
  · have hx' := hx ho
    have hs : crcStep r = r / 2 ^^^ 2197175160 := by unfold crcStep; rw [if_pos ho]
    have HS := hid hs
    have hb : (((r % 2 : Nat) : Int) == 1) = true := beq_iff_eq.2 (by omega)
    clear hs hx
    go_enter Tryz.func166, Tryz.ntmps166
    go_wp2
    go_ret
    exact ⟨by rw [HS.out]; rfl, rfl⟩
  · have hs : crcStep r = r / 2 := by unfold crcStep; rw [if_neg ho]
    have HS := hid hs
    have hb : (((r % 2 : Nat) : Int) == 1) = false := beq_eq_false_iff_ne.2 (by omega)
    clear hs hx
    go_enter Tryz.func166, Tryz.ntmps166
    go_wp2
    go_ret
    exact ⟨by rw [HS.out]; rfl, rfl⟩

theorem not32 (c : Nat) (h : c < 4294967296) : bits BinOp.xor IntKind.u32 IntKind.u32.max (c : Int) = ((4294967295 - c : Nat) : Int) := by
  rw [show IntKind.u32.max = ((4294967295 : Nat) : Int) from rfl, u32_xor_nat _ _ (by omega) h]
  congr 1
  have e : (BitVec.allOnes 32 ^^^ BitVec.ofNat 32 c).toNat = 4294967295 - c := by
    rw [BitVec.allOnes_xor, BitVec.toNat_not, BitVec.toNat_ofNat, Nat.mod_eq_of_lt h]
  rw [BitVec.toNat_xor, BitVec.toNat_allOnes, BitVec.toNat_ofNat, Nat.mod_eq_of_lt h] at e
  exact e

def CrcRel (c : Nat) (s : ByteArray) (a b : Value) : Prop :=
  ∃ k : Nat, k ≤ s.size ∧ b = .int .i64 k ∧ a = .int .u32 ((((tl s).take k).foldl crcByte (4294967295 - c) : Nat) : Int)

def CrcRel2 (r : Nat) (a b : Value) : Prop :=
  ∃ j : Nat, j ≤ 8 ∧ b = .int .i64 j ∧ a = .int .u32 ((crcSteps j r : Nat) : Int)

set_option maxHeartbeats 1000000 in
theorem crcMore_any (c : Nat) (s : ByteArray) (w : World) (hc : c < 4294967296) (hs : s.size ≤ 140737488355328) :
    Calls Tryz.prog 159 #[.int .u32 c, .string s] w fun e w' => e = .returned (.int .u32 (crcMore c (tl s))) ∧ w = w' := by
  have hn := not32 c hc
  go_enter Tryz.func159, Tryz.ntmps159
  go_wp2_with fail
  go_loop [5, 11] (fun a b => CrcRel c s a b) (fun _ b => s.size - (intOf b).toNat)
  case atStart => exact ⟨0, by omega, rfl, rfl⟩
  case round =>
    clear hn
    obtain ⟨k, hk, rfl, rfl⟩ := hrel
    have hlt := crcFold_lt ((tl s).take k) (r := 4294967295 - c) (by omega)
    by_cases h : k < s.size
    · have hT : ((tl s).take (k + 1)).foldl crcByte (4294967295 - c) = crcByte (((tl s).take k).foldl crcByte (4294967295 - c)) s[k] := by
        rw [List.take_succ_eq_append_getElem (by rw [tl_len]; exact h), List.foldl_append]
        rfl
      have HT := hid hT
      clear hT
      generalize ((tl s).take k).foldl crcByte (4294967295 - c) = r at *
      have hb := s[k].toNat_lt
      have hx := u32_xor_nat r s[k].toNat hlt (by omega)
      have hr0 : r ^^^ s[k].toNat < 4294967296 := Nat.xor_lt_two_pow (n := 32) hlt (by omega)
      have HX := hid hr0
      clear hr0 hlt
      go_wp2_with fail
      go_loop [5, 20] (fun a b => CrcRel2 (r ^^^ s[k].toNat) a b) (fun _ b => 8 - (intOf b).toNat)
      case atStart => exact ⟨0, by omega, rfl, rfl⟩
      case round =>
        obtain ⟨j, hj, rfl, rfl⟩ := hrel
        by_cases h8 : j < 8
        · go_wp2_with (go_at_call 166; refine (crcStep_any _ _ (crcSteps_lt j HX.out)).mono ?_; rintro e w1 ⟨rfl, rfl⟩)
          go_round
          case rel => exact ⟨j + 1, by omega, by go_num, rfl⟩
          case measure => simp [intOf]; omega
        · obtain rfl : j = 8 := by omega
          go_wp2
          go_round
          case rel => exact ⟨k + 1, by omega, by go_num, by rw [HT.out]; rfl⟩
          case measure => simp [intOf]; omega
    · obtain rfl : k = s.size := by omega
      have hn2 := not32 _ hlt
      have hF : crcMore c (tl s) = 4294967295 - ((tl s).take s.size).foldl crcByte (4294967295 - c) := by
        unfold crcMore; rw [List.take_of_length_le (by rw [tl_len]; omega)]
      have HF := hid hF
      clear hF
      go_wp2_with fail
      go_ret
      exact ⟨by rw [HF.out]; rfl, rfl⟩

end Go.Proofs.YtgjkjkeeblbjlaaGreatDoor

namespace Go.Proofs.YtgjkjkeeblbjlaaGreatDoor
open Go.RowKit

/-- A check sum's four bytes, the least first. -/
def sum4 (c : Nat) : List UInt8 := [UInt8.ofNat (c % 256), UInt8.ofNat (c / 256 % 256), UInt8.ofNat (c / 65536 % 256), UInt8.ofNat (c / 16777216 % 256)]
/-- A text with its check sum behind it. -/
def sealL (l : List UInt8) : List UInt8 := l ++ sum4 (crcMore 0 l)
/-- The text whose seal it is. -/
def unsealL (l : List UInt8) : Option (List UInt8) :=
  if 4 ≤ l.length ∧ sealL (l.take (l.length - 4)) = l then some (l.take (l.length - 4)) else none
def unsealV : Option (List UInt8) → Value
  | none => .tuple #[.string (bs []), .int .i64 2]
  | some l => .tuple #[.string (bs l), .int .i64 0]

set_option maxHeartbeats 400000 in
theorem crcSum_any (s : ByteArray) (w : World) (hs : s.size ≤ 140737488355328) :
    Calls Tryz.prog 145 #[.string s] w fun e w' => e = .returned (.int .u32 (crcMore 0 (tl s))) ∧ w = w' := by
  go_enter Tryz.func145, Tryz.ntmps145
  go_wp2_with fail
  refine (crcMore_any 0 _ _ (by omega) hs).mono ?_
  rintro e w1 ⟨rfl, rfl⟩
  go_wp2
  go_ret
  exact ⟨rfl, rfl⟩

set_option maxHeartbeats 400000 in
theorem seal_any (s : ByteArray) (w : World) (hs : s.size ≤ 140737488355000) :
    Calls Tryz.prog 117 #[.string s] w fun e w' => e = .returned (.string (bs (sealL (tl s)))) ∧ Below w.heap.size w w' := by
  have HS : Hid (sealL (tl s) = tl s ++ sum4 (crcMore 0 (tl s))) := hid rfl
  go_enter Tryz.func117, Tryz.ntmps117
  go_wp2_with fail
  refine (crcSum_any _ _ (by omega)).mono ?_
  rintro e w1 ⟨rfl, rfl⟩
  have hc := crcMore_lt 0 (tl s)
  generalize crcMore 0 (tl s) = c at *
  have hcv := run_convert_bytes_arg (P := Tryz.prog) (w.alloc (.cells #[.int .u8 ((c : Int) % 256), .int .u8 ((c : Int) / 256 % 256), .int .u8 ((c : Int) / 65536 % 256), .int .u8 ((c : Int) / 16777216)] 5)) 164 5 Tryz.underlying164 Tryz.underlying5 w.heap.size 0 4 4
    [(c : Int) % 256, (c : Int) / 256 % 256, (c : Int) / 65536 % 256, (c : Int) / 16777216] rfl (by
      intro i hi
      refine (Blk.new _ _ _).cell ?_
      rcases i with _ | _ | _ | _ | i
      · rfl
      · rfl
      · rfl
      · rfl
      · omega)
  have hst : (strOfNums [(c : Int) % 256, (c : Int) / 256 % 256, (c : Int) / 65536 % 256, (c : Int) / 16777216]) = bs (sum4 c) := by
    unfold strOfNums bs sum4
    simp only [List.map_cons, List.map_nil]
    rw [show ((c : Int) % 256).toNat = c % 256 from by omega, show ((c : Int) / 256 % 256).toNat = c / 256 % 256 from by omega, show ((c : Int) / 65536 % 256).toNat = c / 65536 % 256 from by omega, show ((c : Int) / 16777216).toNat = c / 16777216 % 256 from by omega]
  rw [hst] at hcv
  clear hst
  have hsz : (bs (sum4 c)).size = 4 := rfl
  have hsum : s.size + 4 ≤ 9223372036854775807 := by omega
  go_wp2
  go_ret
  refine ⟨?_, (Below.refl _ _).alloc (Nat.le_refl _) _⟩
  show Ending.returned (.string (s ++ bs (sum4 c))) = _
  rw [HS.out, ← bs_append, bs_tl]

theorem sum4_len (c : Nat) : (sum4 c).length = 4 := rfl

set_option maxHeartbeats 1000000 in
theorem unseal_any (s : ByteArray) (w : World) (hs : s.size ≤ 140737488355000) :
    Calls Tryz.prog 130 #[.string s] w fun e w' => e = .returned (unsealV (unsealL (tl s))) ∧ Below w.heap.size w w' := by
  by_cases h4 : 4 ≤ s.size
  · have e1 := extract_take s (s.size - 4)
    have hi : ((s.size : Int) - 4) = ((s.size - 4 : Nat) : Int) := by omega
    by_cases he : sealL ((tl s).take (s.size - 4)) = tl s
    · have HF : Hid (unsealV (unsealL (tl s)) = .tuple #[.string (bs ((tl s).take (s.size - 4))), .int .i64 0]) := by
        unfold unsealL; rw [tl_len, if_pos ⟨h4, he⟩]; exact hid rfl
      have heq := str_eq_true (a := bs (sealL ((tl s).take (s.size - 4)))) (b := s) he
      have HE := hid he
      clear he
      go_enter Tryz.func130, Tryz.ntmps130
      go_wp2_with fail
      refine (seal_any _ _ (by rw [bs_size]; simp [tl_len]; omega)).mono ?_
      rintro e w1 ⟨rfl, hb⟩
      rw [tl_bs]
      go_wp2_with fail
      go_ret2
      exact ⟨by rw [HF.out]; rfl, hb⟩
    · have HF : Hid (unsealV (unsealL (tl s)) = .tuple #[.string (bs []), .int .i64 2]) := by
        unfold unsealL; rw [tl_len, if_neg (fun h => he h.2)]; exact hid rfl
      have heq := str_eq_false (a := bs (sealL ((tl s).take (s.size - 4)))) (b := s) he
      have HE := hid he
      clear he
      go_enter Tryz.func130, Tryz.ntmps130
      go_wp2_with fail
      refine (seal_any _ _ (by rw [bs_size]; simp [tl_len]; omega)).mono ?_
      rintro e w1 ⟨rfl, hb⟩
      rw [tl_bs]
      go_wp2_with fail
      go_ret2
      exact ⟨by rw [HF.out]; rfl, hb⟩
  · have HF : Hid (unsealV (unsealL (tl s)) = .tuple #[.string (bs []), .int .i64 2]) := by
      unfold unsealL; rw [tl_len, if_neg (fun h => h4 h.1)]; exact hid rfl
    have hd : decide ((0 : Int) ≤ (s.size : Int) - 4) = false := by simp; omega
    go_enter Tryz.func130, Tryz.ntmps130
    go_wp2_with fail
    go_ret2
    exact ⟨by rw [HF.out]; rfl, Below.refl _ _⟩

end Go.Proofs.YtgjkjkeeblbjlaaGreatDoor
