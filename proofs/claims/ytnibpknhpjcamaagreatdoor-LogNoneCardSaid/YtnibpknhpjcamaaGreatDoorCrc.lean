/-
  Package crc (chapter 2): the check sum on lists of bytes, and the walks. Conditions: texts that fit.
-/
import Derived.Test.YtnibpknhpjcamaaGreatDoorProg
import Derived.Test.YtnibpknhpjcamaaGreatDoorHeap
import Derived.Test.YtnibpknhpjcamaaGreatDoorStr
import Derived.Laws.BitsAllLaws
import Derived.Deep.RegionWith
set_option maxRecDepth 100000
namespace Go.Proofs.YtnibpknhpjcamaaGreatDoor
open Go.RowKit

/-- One bit. -/
def crcStep (r : Nat) : Nat := if r % 2 = 1 then r / 2 ^^^ 2197175160 else r / 2
/-- So many bits. -/
def crcSteps : Nat → Nat → Nat
  | 0, r => r
  | n + 1, r => crcStep (crcSteps n r)
/-- One byte. -/
def crcByte (r : Nat) (c : UInt8) : Nat := crcSteps 8 (r ^^^ c.toNat)
/-- The check sum of a text whose beginning has the sum c. -/
def crcMore (c : Nat) (l : List UInt8) : Nat := 4294967295 - l.foldl crcByte (4294967295 - c)

theorem crcStep_lt {r : Nat} (h : r < 4294967296) : crcStep r < 4294967296 := by
  unfold crcStep
  split
  · exact Nat.xor_lt_two_pow (n := 32) (by omega) (by omega)
  · omega
theorem crcSteps_lt (n : Nat) {r : Nat} (h : r < 4294967296) : crcSteps n r < 4294967296 := by
  induction n with
  | zero => exact h
  | succ n ih => exact crcStep_lt ih
theorem crcByte_lt {r : Nat} (c : UInt8) (h : r < 4294967296) : crcByte r c < 4294967296 :=
  crcSteps_lt 8 (Nat.xor_lt_two_pow (n := 32) h (by have := c.toNat_lt; omega))
theorem crcFold_lt (l : List UInt8) : ∀ {r : Nat}, r < 4294967296 → l.foldl crcByte r < 4294967296 := by
  induction l with
  | nil => intro r h; exact h
  | cons c l ih => intro r h; exact ih (crcByte_lt c h)
theorem crcMore_lt (c : Nat) (l : List UInt8) : crcMore c l < 4294967296 := by unfold crcMore; omega

theorem crc_and1 (r : Nat) (h : r < 4294967296) : bits BinOp.and IntKind.u32 (r : Int) 1 = ((r % 2 : Nat) : Int) := by
  rw [show (1 : Int) = ((1 : Nat) : Int) from rfl, u32_and_nat _ _ (by omega) (by omega), Nat.and_one_is_mod]

set_option maxHeartbeats 400000 in
theorem crcStep_any (r : Nat) (w : World) (h : r < 4294967296) :
    Calls Tryz.prog 162 #[.int .u32 r] w fun e w' => e = .returned (.int .u32 (crcStep r)) ∧ w = w' := by
  have h1 := crc_and1 r h
  have hx : r % 2 = 1 → bits BinOp.xor IntKind.u32 ((r : Int) / 2) 2197175160 = ((r / 2 ^^^ 2197175160 : Nat) : Int) := by
    intro _
    rw [show (r : Int) / 2 = ((r / 2 : Nat) : Int) from by omega, show (2197175160 : Int) = ((2197175160 : Nat) : Int) from rfl, u32_xor_nat _ _ (by omega) (by omega)]
  by_cases ho : r % 2 = 1
  · have hx' := hx ho
    have hs : crcStep r = r / 2 ^^^ 2197175160 := by unfold crcStep; rw [if_pos ho]
    have HS := hid hs
    have hb : (((r % 2 : Nat) : Int) == 1) = true := beq_iff_eq.2 (by omega)
    clear hs hx
    go_enter Tryz.func162, Tryz.ntmps162
    go_wp2
    go_ret
    exact ⟨by rw [HS.out]; rfl, rfl⟩
  · have hs : crcStep r = r / 2 := by unfold crcStep; rw [if_neg ho]
    have HS := hid hs
    have hb : (((r % 2 : Nat) : Int) == 1) = false := beq_eq_false_iff_ne.2 (by omega)
    clear hs hx
    go_enter Tryz.func162, Tryz.ntmps162
    go_wp2
    go_ret
    exact ⟨by rw [HS.out]; rfl, rfl⟩

theorem not32 (c : Nat) (h : c < 4294967296) : bits BinOp.xor IntKind.u32 IntKind.u32.max (c : Int) = ((4294967295 - c : Nat) : Int) := by
  rw [show IntKind.u32.max = ((4294967295 : Nat) : Int) from rfl, u32_xor_nat _ _ (by omega) h]
  congr 1
  have e : (BitVec.allOnes 32 ^^^ BitVec.ofNat 32 c).toNat = 4294967295 - c := by
    rw [BitVec.allOnes_xor, BitVec.toNat_not, BitVec.toNat_ofNat, Nat.mod_eq_of_lt h]
  rw [BitVec.toNat_xor, BitVec.toNat_allOnes, BitVec.toNat_ofNat, Nat.mod_eq_of_lt h] at e
  exact e

def CrcRel (c : Nat) (s : ByteArray) (a b : Value) : Prop :=
  ∃ k : Nat, k ≤ s.size ∧ b = .int .i64 k ∧ a = .int .u32 ((((tl s).take k).foldl crcByte (4294967295 - c) : Nat) : Int)

def CrcRel2 (r : Nat) (a b : Value) : Prop :=
  ∃ j : Nat, j ≤ 8 ∧ b = .int .i64 j ∧ a = .int .u32 ((crcSteps j r : Nat) : Int)

set_option maxHeartbeats 1000000 in
theorem crcMore_any (c : Nat) (s : ByteArray) (w : World) (hc : c < 4294967296) (hs : s.size ≤ 140737488355328) :
    Calls Tryz.prog 146 #[.int .u32 c, .string s] w fun e w' => e = .returned (.int .u32 (crcMore c (tl s))) ∧ w = w' := by
  have hn := not32 c hc
  go_enter Tryz.func146, Tryz.ntmps146
  go_wp2_with fail
  go_loop [5, 11] (fun a b => CrcRel c s a b) (fun _ b => s.size - (intOf b).toNat)
  case atStart => exact ⟨0, by omega, rfl, rfl⟩
  case round =>
    clear hn
    obtain ⟨k, hk, rfl, rfl⟩ := hrel
    have hlt := crcFold_lt ((tl s).take k) (r := 4294967295 - c) (by omega)
    by_cases h : k < s.size
    · have hT : ((tl s).take (k + 1)).foldl crcByte (4294967295 - c) = crcByte (((tl s).take k).foldl crcByte (4294967295 - c)) s[k] := by
        rw [List.take_succ_eq_append_getElem (by rw [tl_len]; exact h), List.foldl_append]
        rfl
      have HT := hid hT
      clear hT
      generalize ((tl s).take k).foldl crcByte (4294967295 - c) = r at *
      have hb := s[k].toNat_lt
      have hx := u32_xor_nat r s[k].toNat hlt (by omega)
      have hr0 : r ^^^ s[k].toNat < 4294967296 := Nat.xor_lt_two_pow (n := 32) hlt (by omega)
      have HX := hid hr0
      clear hr0 hlt
      go_wp2_with fail
      go_loop [5, 20] (fun a b => CrcRel2 (r ^^^ s[k].toNat) a b) (fun _ b => 8 - (intOf b).toNat)
      case atStart => exact ⟨0, by omega, rfl, rfl⟩
      case round =>
        obtain ⟨j, hj, rfl, rfl⟩ := hrel
        by_cases h8 : j < 8
        · go_wp2_with (go_at_call 162; refine (crcStep_any _ _ (crcSteps_lt j HX.out)).mono ?_; rintro e w1 ⟨rfl, rfl⟩)
          go_round
          case rel => exact ⟨j + 1, by omega, by go_num, rfl⟩
          case measure => simp [intOf]; omega
        · obtain rfl : j = 8 := by omega
          go_wp2
          go_round
          case rel => exact ⟨k + 1, by omega, by go_num, by rw [HT.out]; rfl⟩
          case measure => simp [intOf]; omega
    · obtain rfl : k = s.size := by omega
      have hn2 := not32 _ hlt
      have hF : crcMore c (tl s) = 4294967295 - ((tl s).take s.size).foldl crcByte (4294967295 - c) := by
        unfold crcMore; rw [List.take_of_length_le (by rw [tl_len]; omega)]
      have HF := hid hF
      clear hF
      go_wp2_with fail
      go_ret
      exact ⟨by rw [HF.out]; rfl, rfl⟩

end Go.Proofs.YtnibpknhpjcamaaGreatDoor
