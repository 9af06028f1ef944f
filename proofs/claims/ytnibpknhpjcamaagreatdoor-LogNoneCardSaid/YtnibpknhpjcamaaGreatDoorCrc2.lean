/-
  Package crc (chapter 2): Sum, Seal, Unseal: the walks. Conditions: texts that fit.
-/
import Derived.Test.YtnibpknhpjcamaaGreatDoorCrc
import Derived.BigQuiet
import Derived.Deep.QuietTactic
import Derived.Laws.BytesArg
set_option maxRecDepth 100000
namespace Go.Proofs.YtnibpknhpjcamaaGreatDoor
open Go.RowKit

/-- A check sum's four bytes, the least first. -/
def sum4 (c : Nat) : List UInt8 := [UInt8.ofNat (c % 256), UInt8.ofNat (c / 256 % 256), UInt8.ofNat (c / 65536 % 256), UInt8.ofNat (c / 16777216 % 256)]
/-- A text with its check sum behind it. -/
def sealL (l : List UInt8) : List UInt8 := l ++ sum4 (crcMore 0 l)
/-- The text whose seal it is. -/
def unsealL (l : List UInt8) : Option (List UInt8) :=
  if 4 ≤ l.length ∧ sealL (l.take (l.length - 4)) = l then some (l.take (l.length - 4)) else none
def unsealV : Option (List UInt8) → Value
  | none => .tuple #[.string (bs []), .int .i64 2]
  | some l => .tuple #[.string (bs l), .int .i64 0]

set_option maxHeartbeats 400000 in
theorem crcSum_any (s : ByteArray) (w : World) (hs : s.size ≤ 140737488355328) :
    Calls Tryz.prog 120 #[.string s] w fun e w' => e = .returned (.int .u32 (crcMore 0 (tl s))) ∧ w = w' := by
  go_enter Tryz.func120, Tryz.ntmps120
  go_wp2_with fail
  refine (crcMore_any 0 _ _ (by omega) hs).mono ?_
  rintro e w1 ⟨rfl, rfl⟩
  go_wp2
  go_ret
  exact ⟨rfl, rfl⟩

set_option maxHeartbeats 400000 in
theorem seal_any (s : ByteArray) (w : World) (hs : s.size ≤ 140737488355000) :
    Calls Tryz.prog 89 #[.string s] w fun e w' => e = .returned (.string (bs (sealL (tl s)))) ∧ Below w.heap.size w w' := by
  have HS : Hid (sealL (tl s) = tl s ++ sum4 (crcMore 0 (tl s))) := hid rfl
  go_enter Tryz.func89, Tryz.ntmps89
  go_wp2_with fail
  refine (crcSum_any _ _ (by omega)).mono ?_
  rintro e w1 ⟨rfl, rfl⟩
  have hc := crcMore_lt 0 (tl s)
  generalize crcMore 0 (tl s) = c at *
  have hcv := run_convert_bytes_arg (P := Tryz.prog) (w.alloc (.cells #[.int .u8 ((c : Int) % 256), .int .u8 ((c : Int) / 256 % 256), .int .u8 ((c : Int) / 65536 % 256), .int .u8 ((c : Int) / 16777216)] 5)) 113 5 Tryz.underlying113 Tryz.underlying5 w.heap.size 0 4 4
    [(c : Int) % 256, (c : Int) / 256 % 256, (c : Int) / 65536 % 256, (c : Int) / 16777216] rfl (by
      intro i hi
      refine (Blk.new _ _ _).cell ?_
      rcases i with _ | _ | _ | _ | i
      · rfl
      · rfl
      · rfl
      · rfl
      · omega)
  have hst : (strOfNums [(c : Int) % 256, (c : Int) / 256 % 256, (c : Int) / 65536 % 256, (c : Int) / 16777216]) = bs (sum4 c) := by
    unfold strOfNums bs sum4
    simp only [List.map_cons, List.map_nil]
    rw [show ((c : Int) % 256).toNat = c % 256 from by omega, show ((c : Int) / 256 % 256).toNat = c / 256 % 256 from by omega, show ((c : Int) / 65536 % 256).toNat = c / 65536 % 256 from by omega, show ((c : Int) / 16777216).toNat = c / 16777216 % 256 from by omega]
  rw [hst] at hcv
  clear hst
  have hsz : (bs (sum4 c)).size = 4 := rfl
  have hsum : s.size + 4 ≤ 9223372036854775807 := by omega
  go_wp2
  go_ret
  refine ⟨?_, (Below.refl _ _).alloc (Nat.le_refl _) _⟩
  show Ending.returned (.string (s ++ bs (sum4 c))) = _
  rw [HS.out, ← bs_append, bs_tl]

theorem sum4_len (c : Nat) : (sum4 c).length = 4 := rfl

set_option maxHeartbeats 1000000 in
theorem unseal_any (s : ByteArray) (w : World) (hs : s.size ≤ 140737488355000) :
    Calls Tryz.prog 54 #[.string s] w fun e w' => e = .returned (unsealV (unsealL (tl s))) ∧ Below w.heap.size w w' := by
  by_cases h4 : 4 ≤ s.size
  · have e1 := extract_take s (s.size - 4)
    have hi : ((s.size : Int) - 4) = ((s.size - 4 : Nat) : Int) := by omega
    by_cases he : sealL ((tl s).take (s.size - 4)) = tl s
    · have HF : Hid (unsealV (unsealL (tl s)) = .tuple #[.string (bs ((tl s).take (s.size - 4))), .int .i64 0]) := by
        unfold unsealL; rw [tl_len, if_pos ⟨h4, he⟩]; exact hid rfl
      have heq := str_eq_true (a := bs (sealL ((tl s).take (s.size - 4)))) (b := s) he
      have HE := hid he
      clear he
      go_enter Tryz.func54, Tryz.ntmps54
      go_wp2_with fail
      refine (seal_any _ _ (by rw [bs_size]; simp [tl_len]; omega)).mono ?_
      rintro e w1 ⟨rfl, hb⟩
      rw [tl_bs]
      go_wp2_with fail
      go_ret2
      exact ⟨by rw [HF.out]; rfl, hb⟩
    · have HF : Hid (unsealV (unsealL (tl s)) = .tuple #[.string (bs []), .int .i64 2]) := by
        unfold unsealL; rw [tl_len, if_neg (fun h => he h.2)]; exact hid rfl
      have heq := str_eq_false (a := bs (sealL ((tl s).take (s.size - 4)))) (b := s) he
      have HE := hid he
      clear he
      go_enter Tryz.func54, Tryz.ntmps54
      go_wp2_with fail
      refine (seal_any _ _ (by rw [bs_size]; simp [tl_len]; omega)).mono ?_
      rintro e w1 ⟨rfl, hb⟩
      rw [tl_bs]
      go_wp2_with fail
      go_ret2
      exact ⟨by rw [HF.out]; rfl, hb⟩
  · have HF : Hid (unsealV (unsealL (tl s)) = .tuple #[.string (bs []), .int .i64 2]) := by
      unfold unsealL; rw [tl_len, if_neg (fun h => h4 h.1)]; exact hid rfl
    have hd : decide ((0 : Int) ≤ (s.size : Int) - 4) = false := by simp; omega
    go_enter Tryz.func54, Tryz.ntmps54
    go_wp2_with fail
    go_ret2
    exact ⟨by rw [HF.out]; rfl, Below.refl _ _⟩

end Go.Proofs.YtnibpknhpjcamaaGreatDoor
