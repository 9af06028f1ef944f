/-
  The document's name of a segment: the walk. Conditions: numbers that fit.
-/
import Derived.Test.YtnibpknhpjcamaaGreatDoorGDM
set_option maxRecDepth 100000
namespace Go.Proofs.YtnibpknhpjcamaaGreatDoor
open Go.RowKit

/-- Between two rounds of File. -/
def FileR (w : World) (base0 : Int) (s c b : Value) (wr : World) : Prop :=
  ∃ (k m : Nat) (t : List UInt8) (x : Int), k + m = 13 ∧ c = .int .i64 k ∧ s = .string (bs t) ∧ b = .int .i64 x ∧ 0 ≤ x ∧ x ≤ 9223372036854775807 ∧ t.length ≤ k ∧ digs m x ++ t = digs 13 base0 ∧ Below w.heap.size w wr

set_option maxHeartbeats 1000000 in
theorem refFile_any (nm : List UInt8) (base : Int) (w : World) (hnl : nm.length ≤ 1000000) (h0 : 0 ≤ base) (h1 : base ≤ 9223372036854775807) :
    Calls Tryz.prog 20 #[.string (bs nm), .int .i64 base] w fun e w' => e = .returned (.string (bs (segName nm base))) ∧ Below w.heap.size w w' := by
  go_enter Tryz.func20, Tryz.ntmps20
  go_wp2_with fail
  go_loopw [5, 6, 1] (fun s c b wr => FileR w base s c b wr) (fun _ c _ _ => 13 - (intOf c).toNat)
  case atStart => exact ⟨0, 13, [], base, rfl, rfl, rfl, rfl, h0, h1, by simp, by simp, Below.refl _ _⟩
  case round =>
    obtain ⟨k, m, t, x, hkm, rfl, rfl, rfl, hx0, hx1, ht, hcat, hb⟩ := hrel
    have HC := hid hcat
    have HB := hid hb
    clear hcat hb
    by_cases hlt : k < 13
    · obtain ⟨m, rfl⟩ : ∃ n, m = n + 1 := ⟨m - 1, by omega⟩
      have hlt' : (k : Int) < 13 := by omega
      have hd : 0 ≤ 48 + x % 10 ∧ 48 + x % 10 ≤ 57 := by omega
      have hcv := run_convert_bytes_arg (P := Tryz.prog) (wr.alloc (.cells #[.int .u8 (48 + x % 10)] 5)) 113 5 Tryz.underlying113 Tryz.underlying5 wr.heap.size 0 1 1 [48 + x % 10] rfl (by
          intro i hi
          have : i = 0 := by simpa using hi
          subst this
          exact (Blk.new wr _ _).cell rfl)
      have hst : strOfNums [48 + x % 10] = bs [UInt8.ofNat (48 + x % 10).toNat] := rfl
      rw [hst] at hcv
      have hsum1 : (bs [UInt8.ofNat (48 + x % 10).toNat]).size + (bs t).size ≤ 9223372036854775807 := by rw [bs_size, bs_size]; simp; omega
      have hno1 : ¬ 9223372036854775807 < (bs [UInt8.ofNat (48 + x % 10).toNat]).size + (bs t).size := by omega
      clear hst hd
      go_wp2_with fail
      go_roundw
      case rel =>
        refine ⟨k + 1, m, UInt8.ofNat (48 + x % 10).toNat :: t, x / 10, by omega, by go_num, ?_, rfl, by omega, by omega, by simp; omega, ?_, bel_alloc HB.out _⟩
        · rw [bs_append]; rfl
        · have h9 := HC.out
          rw [digs, List.append_assoc] at h9
          exact h9
      case measure => simp [intOf]; omega
    · obtain rfl : k = 13 := by omega
      obtain rfl : m = 0 := by omega
      have hd : ((13 : Nat) : Int) = 13 := rfl
      have hsz1 : (bs nm).size = nm.length := rfl
      have hsz2 : (bs nm ++ (⟨#[46]⟩ : ByteArray)).size = nm.length + 1 := by rw [show (⟨#[46]⟩ : ByteArray) = bs [46] from rfl, bs_append, bs_size]; simp
      have hsz3 : (bs t).size ≤ 13 := by rw [bs_size]; exact ht
      have hsum1 : (bs nm).size + (⟨#[46]⟩ : ByteArray).size ≤ 9223372036854775807 := by rw [hsz1]; show nm.length + 1 ≤ _; omega
      have hsum2 : (bs nm ++ (⟨#[46]⟩ : ByteArray)).size + (bs t).size ≤ 9223372036854775807 := by rw [hsz2]; omega
      have hno1 : ¬ 9223372036854775807 < (bs nm).size + (⟨#[46]⟩ : ByteArray).size := by omega
      have hno2 : ¬ 9223372036854775807 < (bs nm ++ (⟨#[46]⟩ : ByteArray)).size + (bs t).size := by omega
      clear hsz1 hsz2 hsz3
      go_wp2_with fail
      go_ret
      refine ⟨?_, HB.out⟩
      have e : bs (segName nm base) = bs nm ++ (⟨#[46]⟩ : ByteArray) ++ bs t := by
        have h9 := HC.out
        simp only [digs, List.nil_append] at h9
        rw [show (⟨#[46]⟩ : ByteArray) = bs [46] from rfl, bs_append, bs_append, h9]
        unfold segName; simp [digs]
      rw [e]; rfl
end Go.Proofs.YtnibpknhpjcamaaGreatDoor
