/-
  Plain facts about the encoding of integers (chapter 1), on lists of bytes. No conditions.
-/
import Derived.WalkKit
import Derived.Laws.BitsAllLaws
import Derived.Laws.Bits64
import Derived.Laws.Bits128
namespace Go.Proofs.YtnibpknhpjcamaaGreatDoor
open Go.RowKit

/-- The number that an integer is written as: 2n, or -2n-1. -/
def zig (n : Int) : Nat := if 0 ≤ n then (2 * n).toNat else (-2 * n - 1).toNat

/-- Sevens of bits, the lowest first. -/
def leb (u : Nat) : List UInt8 :=
  if u < 128 then [UInt8.ofNat u] else UInt8.ofNat (u % 128 + 128) :: leb (u / 128)
termination_by u

theorem leb_small {u : Nat} (h : u < 128) : leb u = [UInt8.ofNat u] := by rw [leb, if_pos h]
theorem leb_big {u : Nat} (h : ¬ u < 128) : leb u = UInt8.ofNat (u % 128 + 128) :: leb (u / 128) := by rw [leb, if_neg h]

theorem leb_pos (u : Nat) : 1 ≤ (leb u).length := by
  by_cases h : u < 128
  · rw [leb_small h]; simp
  · rw [leb_big h]; simp

theorem leb_len_le (d : Nat) : ∀ u, u < 2 ^ (7 * d + 7) → (leb u).length ≤ d + 1 := by
  induction d with
  | zero => intro u h; rw [leb_small (by simpa using h)]; simp
  | succ d ih =>
    intro u h
    by_cases hu : u < 128
    · rw [leb_small hu]; simp
    · rw [leb_big hu]
      have := ih (u / 128) (by
        rw [Nat.div_lt_iff_lt_mul (by omega)]
        calc u < 2 ^ (7 * (d + 1) + 7) := h
          _ = 2 ^ (7 * d + 7) * 128 := by rw [show 7 * (d + 1) + 7 = 7 * d + 7 + 7 from by omega, Nat.pow_add])
      simp; omega

theorem leb_len10 {u : Nat} (h : u < 18446744073709551616) : (leb u).length ≤ 10 :=
  leb_len_le 9 u (Nat.lt_of_lt_of_le h (by decide))

/-- The encoding of an integer. -/
def putL (n : Int) : List UInt8 := leb (zig n)

theorem zig_lt {n : Int} (h0 : -9223372036854775808 ≤ n) (h1 : n ≤ 9223372036854775807) : zig n < 18446744073709551616 := by
  unfold zig; split <;> omega

theorem zig_bits {n : Int} (h0 : -9223372036854775808 ≤ n) (h1 : n ≤ 9223372036854775807) :
    bits BinOp.xor IntKind.u64 (IntKind.u64.wrap (IntKind.u64.wrap n * 2)) (IntKind.u64.wrap (n / 9223372036854775808)) = ((zig n : Nat) : Int) := by
  unfold zig
  by_cases h : 0 ≤ n
  · rw [if_pos h]
    obtain ⟨m, rfl⟩ := Int.eq_ofNat_of_zero_le h
    have e1 : IntKind.u64.wrap (m : Int) = (m : Int) := IntWalk.u64_in _ (by omega)
    have e2 : IntKind.u64.wrap ((m : Int) * 2) = ((m * 2 : Nat) : Int) := by rw [IntWalk.u64_in _ (by omega)]; simp
    have e3 : IntKind.u64.wrap ((m : Int) / 9223372036854775808) = ((0 : Nat) : Int) := by
      rw [show (m : Int) / 9223372036854775808 = 0 from by omega]; rfl
    rw [e1, e2, e3, bits_xor_u64_nat _ _ (by omega) (by omega)]
    simp; omega
  · rw [if_neg h]
    obtain ⟨m, hm⟩ : ∃ m : Nat, n = -(m : Int) - 1 := ⟨(-n - 1).toNat, by omega⟩
    subst hm
    have hm : m < 9223372036854775808 := by omega
    have e1 : IntKind.u64.wrap (-(m : Int) - 1) = ((18446744073709551615 - m : Nat) : Int) := by
      rw [IntKind.wrap_u64]; omega
    have e2 : IntKind.u64.wrap (((18446744073709551615 - m : Nat) : Int) * 2) = ((18446744073709551614 - 2 * m : Nat) : Int) := by
      rw [IntKind.wrap_u64]; omega
    have e3 : IntKind.u64.wrap ((-(m : Int) - 1) / 9223372036854775808) = ((18446744073709551615 : Nat) : Int) := by
      rw [show (-(m : Int) - 1) / 9223372036854775808 = -1 from by omega, IntKind.wrap_u64]; rfl
    rw [e1, e2, e3, bits_xor_u64_nat _ _ (by omega) (by omega)]
    have e4 : (18446744073709551614 - 2 * m) ^^^ 18446744073709551615 = 2 * m + 1 := by
      have hb : BitVec.ofNat 64 (18446744073709551614 - 2 * m) ^^^ BitVec.ofNat 64 18446744073709551615 = BitVec.ofNat 64 (2 * m + 1) := by
        have e5 : BitVec.ofNat 64 18446744073709551615 = BitVec.allOnes 64 := by decide
        rw [e5, BitVec.xor_allOnes]
        apply BitVec.eq_of_toNat_eq
        rw [BitVec.toNat_not, BitVec.toNat_ofNat, BitVec.toNat_ofNat]
        omega
      have := congrArg BitVec.toNat hb
      rw [BitVec.toNat_xor, BitVec.toNat_ofNat, BitVec.toNat_ofNat, BitVec.toNat_ofNat, Nat.mod_eq_of_lt (by omega), Nat.mod_eq_of_lt (by omega), Nat.mod_eq_of_lt (by omega)] at this
      exact this
    rw [e4]
    omega

theorem or128_all : ∀ a : Fin 256, a.val ||| 128 = a.val % 128 + 128 := by decide +kernel

theorem or128 (u : Nat) : bits BinOp.or IntKind.u8 ((u : Int) % 256) 128 = ((u % 128 + 128 : Nat) : Int) := by
  rw [u8_or _ _ (by omega) (by omega) (by omega) (by omega)]
  have h := or128_all ⟨u % 256, by omega⟩
  simp only at h
  rw [show ((u : Int) % 256).toNat = u % 256 from by omega, show (128 : Int).toNat = 128 from rfl, h]
  congr 1
  omega

theorem take_succ_set {α : Type} (l : List α) (k : Nat) (x : α) (h : k < l.length) : (l.set k x).take (k + 1) = l.take k ++ [x] := by
  rw [List.take_succ_eq_append_getElem (by simpa using h), List.take_set_of_le (Nat.le_refl k)]
  simp

theorem put_step (u k : Nat) (ns : List Int) (hk : k < ns.length) (hbig : ¬ u < 128) :
    ((ns.set k ((u % 128 + 128 : Nat) : Int)).take (k + 1)).map (fun n => UInt8.ofNat n.toNat) ++ leb (u / 128) = (ns.take k).map (fun n => UInt8.ofNat n.toNat) ++ leb u := by
  rw [take_succ_set _ _ _ hk, leb_big hbig, List.map_append, List.append_assoc]
  rfl

/-- What one byte more makes of the number read so far. -/
def acc (u k c : Nat) : Nat := u ||| (c % 128 * 2 ^ (7 * k)) % 18446744073709551616

/-- Bytes read as a number, k bytes having come to u: the number as it lies in the bytes, and what is behind it. -/
def takeL : List UInt8 → Nat → Nat → Option (Nat × List UInt8)
  | [], _, _ => none
  | c :: r, k, u =>
    if k = 10 then none
    else if 128 ≤ c.toNat then takeL r (k + 1) (acc u k c.toNat)
    else if (1 ≤ k ∧ c.toNat = 0) ∨ (k = 9 ∧ 1 < c.toNat) then none
    else some (acc u k c.toNat, r)

/-- The integer that a number stands for. -/
def unzig (u : Nat) : Int := if u % 2 = 0 then ((u / 2 : Nat) : Int) else -((u / 2 : Nat) : Int) - 1

theorem and127_all : ∀ a : Fin 256, a.val &&& 127 = a.val % 128 := by decide +kernel

theorem and127 (c : Nat) (h : c < 256) : bits BinOp.and IntKind.u8 (c : Int) 127 = ((c % 128 : Nat) : Int) := by
  rw [show (127 : Int) = ((127 : Nat) : Int) from rfl, u8_and_nat _ _ h (by omega)]
  have := and127_all ⟨c, h⟩
  simp only at this
  rw [this]

theorem acc_bits (u k c : Nat) (hu : u < 18446744073709551616) (hc : c < 256) :
    bits BinOp.or IntKind.u64 (u : Int) (IntKind.u64.wrap (IntKind.u64.wrap (bits BinOp.and IntKind.u8 (c : Int) 127) * 2 ^ (7 * k))) = ((acc u k c : Nat) : Int) := by
  rw [and127 c hc, show IntKind.u64.wrap ((c % 128 : Nat) : Int) = ((c % 128 : Nat) : Int) from IntWalk.u64_in _ (by omega)]
  have e : IntKind.u64.wrap (((c % 128 : Nat) : Int) * 2 ^ (7 * k)) = (((c % 128 * 2 ^ (7 * k)) % 18446744073709551616 : Nat) : Int) := by
    rw [IntKind.wrap_u64]
    simp
  rw [e, u64_or_nat _ _ hu (Nat.mod_lt _ (by omega))]
  rfl

theorem acc_lt (u k c : Nat) (hu : u < 18446744073709551616) : acc u k c < 18446744073709551616 := by
  unfold acc
  have h1 : u < 2 ^ 64 := hu
  have h2 : (c % 128 * 2 ^ (7 * k)) % 18446744073709551616 < 2 ^ 64 := Nat.mod_lt _ (by omega)
  exact Nat.or_lt_two_pow h1 h2

theorem unzig_bits (u : Nat) (hu : u < 18446744073709551616) :
    bits BinOp.xor IntKind.i64 ((u : Int) / 2) (-(bits BinOp.and IntKind.u64 (u : Int) 1)) = unzig u := by
  have e1 : bits BinOp.and IntKind.u64 (u : Int) 1 = ((u % 2 : Nat) : Int) := by
    rw [show (1 : Int) = ((1 : Nat) : Int) from rfl, u64_and_nat _ _ hu (by omega), Nat.and_one_is_mod]
  have e2 : (u : Int) / 2 = ((u / 2 : Nat) : Int) := by omega
  rw [e1, e2]
  unfold unzig
  by_cases h : u % 2 = 0
  · rw [if_pos h, h]
    have hx : ∀ a : Nat, a < 9223372036854775808 → bits BinOp.xor IntKind.i64 (a : Int) (-((0 : Nat) : Int)) = (a : Int) := by
      intro a ha
      show IntKind.i64.wrap ((BitVec.ofInt 64 (a : Int) ^^^ BitVec.ofInt 64 (-((0 : Nat) : Int))).toNat : Int) = _
      rw [show BitVec.ofInt 64 (-((0 : Nat) : Int)) = 0#64 from by decide, BitVec.xor_zero, ofInt_u64 a (by omega)]
      simp [IntKind.wrap, IntKind.bits, IntKind.signed]
      omega
    exact hx _ (by omega)
  · rw [if_neg h, show u % 2 = 1 from by omega]
    have hx : ∀ a : Nat, a < 9223372036854775808 → bits BinOp.xor IntKind.i64 (a : Int) (-((1 : Nat) : Int)) = -(a : Int) - 1 := by
      intro a ha
      show IntKind.i64.wrap ((BitVec.ofInt 64 (a : Int) ^^^ BitVec.ofInt 64 (-((1 : Nat) : Int))).toNat : Int) = _
      rw [show BitVec.ofInt 64 (-((1 : Nat) : Int)) = BitVec.allOnes 64 from by decide, BitVec.xor_allOnes, BitVec.toNat_not, ofInt_u64 a (by omega)]
      simp [IntKind.wrap, IntKind.bits, IntKind.signed]
      omega
    exact hx _ (by omega)

theorem unzig_walk (u : Nat) (hu : u < 18446744073709551616) :
    bits BinOp.xor IntKind.i64 (wrap64 ((u : Int) / 2)) (wrap64 (-wrap64 (bits BinOp.and IntKind.u64 (u : Int) 1))) = unzig u := by
  have e1 : bits BinOp.and IntKind.u64 (u : Int) 1 = ((u % 2 : Nat) : Int) := by
    rw [show (1 : Int) = ((1 : Nat) : Int) from rfl, u64_and_nat _ _ hu (by omega), Nat.and_one_is_mod]
  have h := unzig_bits u hu
  rw [e1] at h ⊢
  rw [IntWalk.wrap64_in ((u : Int) / 2) (by omega), IntWalk.wrap64_in ((u % 2 : Nat) : Int) (by omega), IntWalk.wrap64_in (-((u % 2 : Nat) : Int)) (by omega)]
  exact h

end Go.Proofs.YtnibpknhpjcamaaGreatDoor
