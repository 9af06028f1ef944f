/-
  seglog: the log in the memory; the small functions: the walks. Conditions: numbers that fit.
-/
import Derived.Test.YtnibpknhpjcamaaGreatDoorLog
set_option maxRecDepth 100000
namespace Go.Proofs.YtnibpknhpjcamaaGreatDoor
open Go.RowKit

/-- A log. -/
structure PLog where
  name : List UInt8
  segs : List PSeg
  first : Int
  next : Int
  sure : Int
  e : Int

/-- The digits of a segment's name. -/
def digs : Nat → Int → List UInt8
  | 0, _ => []
  | k + 1, b => digs k (b / 10) ++ [UInt8.ofNat (48 + b % 10).toNat]

/-- The name of the segment that begins at an offset. -/
def segName (name : List UInt8) (base : Int) : List UInt8 := name ++ 46 :: digs 13 base

theorem digs_len (k : Nat) : ∀ b, (digs k b).length = k := by
  induction k with
  | zero => intro b; rfl
  | succ k ih => intro b; simp [digs, ih]

/-- The bytes while a name is laid: the last ones are. -/
def FileRel (B : Nat) (w : World) (base0 : Int) (a b : Value) (wr : World) : Prop :=
  ∃ (i : Nat) (base : Int) (ns : List Int), i ≤ 13 ∧ a = .int .i64 ((i : Int) - 1) ∧ b = .int .i64 base ∧ 0 ≤ base ∧ base ≤ 9223372036854775807 ∧ ns.length = 13 ∧
    Blk wr B (ns.map (Value.int .u8)).toArray 150 ∧ digs i base ++ (ns.drop i).map (fun n => UInt8.ofNat n.toNat) = digs 13 base0 ∧ Below B w wr

set_option maxHeartbeats 1000000 in
theorem file_any (l : Nat) (nm : List UInt8) (base : Int) (w : World) (hn : w.cell? ⟨l, 1, none⟩ = some (.string (bs nm))) (hnl : nm.length ≤ 1000000) (h0 : 0 ≤ base) (h1 : base ≤ 9223372036854775807) :
    Calls Tryz.prog 47 #[ptr l, .int .i64 base] w fun e w' => e = .returned (.string (bs (segName nm base))) ∧ Below w.heap.size w w' := by
  have hllt : l < w.heap.size := World.block_lt_of_cell? w _ hn
  unfold ptr
  go_enter Tryz.func47, Tryz.ntmps47
  go_wp2_with fail
  go_loopw [6, 1] (fun a b wr => FileRel w.heap.size w base a b wr) (fun a _ _ => (intOf a + 1).toNat)
  case atStart =>
    exact ⟨13, base, List.replicate 13 0, by omega, rfl, rfl, h0, h1, by simp, Blk.new _ _ _, by simp, (Below.refl _ _).alloc (Nat.le_refl _) _⟩
  case round =>
    obtain ⟨i, b, ns, hi, rfl, rfl, hb0, hb1, hns, hB, hcat, hbel⟩ := hrel
    by_cases hz : i = 0
    · subst hz
      have hnlt := hbel.cell (p := ⟨l, 1, none⟩) hllt
      have hname : wr.cell? ⟨l, 1, none⟩ = some (.string (bs nm)) := hnlt.trans hn
      have hcv := fun (n : Nat) =>
        run_convert_bytes_arg (P := Tryz.prog) (wr.drewN n) 113 5 Tryz.underlying113 Tryz.underlying5 w.heap.size 0 13 13 ns hns (by
          intro i hi
          refine (hB.drewN n).cell ?_
          simp [hns, hi])
      have hst : strOfNums ns = bs (digs 13 base) := by
        unfold strOfNums bs
        rw [← hcat]
        simp [digs]
      rw [hst] at hcv
      have hsz1 : (bs nm).size = nm.length := rfl
      have hsz2 : (bs nm ++ (⟨#[46]⟩ : ByteArray)).size = nm.length + 1 := by rw [show (⟨#[46]⟩ : ByteArray) = bs [46] from rfl, bs_append, bs_size]; simp
      have hsz3 : (bs (digs 13 base)).size = 13 := digs_len 13 base
      have hsum1 : (bs nm).size + (⟨#[46]⟩ : ByteArray).size ≤ 9223372036854775807 := by rw [hsz1]; show nm.length + 1 ≤ _; omega
      have hsum2 : (bs nm ++ (⟨#[46]⟩ : ByteArray)).size + (bs (digs 13 base)).size ≤ 9223372036854775807 := by rw [hsz2, hsz3]; omega
      have hno1 : ¬ 9223372036854775807 < (bs nm).size + (⟨#[46]⟩ : ByteArray).size := by omega
      have hno2 : ¬ 9223372036854775807 < (bs nm ++ (⟨#[46]⟩ : ByteArray)).size + (bs (digs 13 base)).size := by omega
      clear hcat hst hsz1 hsz2 hsz3 hB
      go_wp2_with fail
      go_quiet (fail)
      go_wp2_with fail
      go_ret
      refine ⟨?_, bel_next hbel (bel_drewN _ _ _)⟩
      have e : bs (segName nm base) = bs nm ++ (⟨#[46]⟩ : ByteArray) ++ bs (digs 13 base) := by
        rw [show (⟨#[46]⟩ : ByteArray) = bs [46] from rfl, bs_append, bs_append]
        unfold segName; simp
      rw [e]; rfl
    · obtain ⟨k, rfl⟩ : ∃ k, i = k + 1 := ⟨i - 1, by omega⟩
      have HN := hid hns
      have HC := hid hcat
      have HB := hid hB
      clear hns hcat hB
      have hix : ((k + 1 : Nat) : Int) - 1 = (k : Int) := by omega
      rw [hix]
      have hc : wr.cell? ⟨w.heap.size, k, none⟩ = some (.int .u8 (ns.getD k 0)) := HB.out.cell (by
        have : k < ns.length := by have := HN.out; omega
        simp [this])
      have hf := HB.out.free k
      have hr : Int.tmod b 10 = b % 10 := Int.tmod_eq_emod_of_nonneg hb0
      have hq : Int.tdiv b 10 = b / 10 := Int.tdiv_eq_ediv_of_nonneg hb0
      go_wp2_with fail
      have hm0 : 0 ≤ b % 10 := by omega
      refine ⟨⟨k, b / 10, ns.set k (48 + b % 10), by omega, rfl, rfl, by omega, by omega, by simp [HN.out], ?_, ?_, hbel.setCell (Nat.le_refl _) _⟩, ?_⟩
      · have h := HB.out.set k (.int .u8 (48 + b % 10))
        simpa using h
      · rw [← HC.out]
        have hk : k < ns.length := by have := HN.out; omega
        have hd : (ns.set k (48 + b % 10)).drop k = (48 + b % 10) :: ns.drop (k + 1) := by
          rw [List.drop_set]
          simp only [Nat.lt_irrefl, if_false, Nat.sub_self]
          rw [List.drop_eq_getElem_cons hk]
          rfl
        rw [hd]
        simp [digs]
      · simp [intOf]

end Go.Proofs.YtnibpknhpjcamaaGreatDoor
