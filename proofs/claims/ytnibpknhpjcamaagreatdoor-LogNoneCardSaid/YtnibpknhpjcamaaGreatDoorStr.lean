/-
  Plain lemmas about strings of bytes and lists. No conditions.
-/
import Derived.WalkKit
import Derived.Lib.Bytes
namespace Go.Proofs.YtnibpknhpjcamaaGreatDoor

/-- A text out of its bytes. -/
def bs (l : List UInt8) : ByteArray := ⟨l.toArray⟩
/-- The bytes of a text. -/
def tl (s : ByteArray) : List UInt8 := s.data.toList

theorem bs_tl (s : ByteArray) : bs (tl s) = s := by
  apply ByteArray.ext; apply Array.ext'; rfl
theorem tl_bs (l : List UInt8) : tl (bs l) = l := rfl
theorem bs_inj {a b : List UInt8} (h : bs a = bs b) : a = b := by rw [← tl_bs a, h, tl_bs]
theorem tl_inj {a b : ByteArray} (h : tl a = tl b) : a = b := by rw [← bs_tl a, h, bs_tl]
theorem tl_len (s : ByteArray) : (tl s).length = s.size := Array.length_toList
theorem bs_size (l : List UInt8) : (bs l).size = l.length := rfl
theorem bs_append (a b : List UInt8) : bs a ++ bs b = bs (a ++ b) := by
  apply ByteArray.ext; apply Array.ext'; simp [bs]
theorem tl_append (a b : ByteArray) : tl (a ++ b) = tl a ++ tl b := by simp [tl]
theorem bs_nil : (⟨#[]⟩ : ByteArray) = bs [] := rfl

theorem tl_extract (s : ByteArray) (i j : Nat) : tl (s.extract i j) = ((tl s).drop i).take (j - i) := by
  simp [tl]

theorem extract_drop (s : ByteArray) (k : Nat) : s.extract k s.size = bs ((tl s).drop k) := by
  apply tl_inj
  rw [tl_extract, tl_bs, List.take_of_length_le]
  rw [List.length_drop, tl_len]; omega

theorem extract_take (s : ByteArray) (k : Nat) : s.extract 0 k = bs ((tl s).take k) := by
  apply tl_inj
  rw [tl_extract, tl_bs]
  simp

theorem drop_byte (s : ByteArray) (k : Nat) (h : k < s.size) : (tl s).drop k = s[k] :: (tl s).drop (k + 1) := by
  rw [List.drop_eq_getElem_cons (by rw [tl_len]; exact h)]
  rfl

theorem toList_tl (s : ByteArray) : s.toList = tl s := Lib.toList_data s

theorem str_eq_true {a b : ByteArray} (h : tl a = tl b) : (a.toList == b.toList) = true := by
  rw [toList_tl, toList_tl, h]; exact beq_self_eq_true _
theorem str_eq_false {a b : ByteArray} (h : tl a ≠ tl b) : (a.toList == b.toList) = false := by
  rw [toList_tl, toList_tl]; exact beq_eq_false_iff_ne.2 h
theorem str_ne_true {a b : ByteArray} (h : tl a ≠ tl b) : (a.toList != b.toList) = true := by
  rw [bne, str_eq_false h]; rfl
theorem str_ne_false {a b : ByteArray} (h : tl a = tl b) : (a.toList != b.toList) = false := by
  rw [bne, str_eq_true h]; rfl

end Go.Proofs.YtnibpknhpjcamaaGreatDoor
