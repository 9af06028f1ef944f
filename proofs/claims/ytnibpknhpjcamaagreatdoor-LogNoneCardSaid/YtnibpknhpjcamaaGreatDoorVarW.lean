/-
  The walks of package varint (chapter 1): what each call computes. Conditions: integers of 64 bits, texts that fit.
-/
import Derived.Test.YtnibpknhpjcamaaGreatDoorProg
import Derived.Test.YtnibpknhpjcamaaGreatDoorHeap
import Derived.Test.YtnibpknhpjcamaaGreatDoorVar
import Derived.Test.YtnibpknhpjcamaaGreatDoorStr
import Derived.ScopeJumps
import Derived.Deep.QuietTactic
import Derived.BigQuiet
set_option maxRecDepth 100000
namespace Go.Proofs.YtnibpknhpjcamaaGreatDoor
open Go.RowKit

/-- The cells of an array of ten bytes while a number is laid. -/
def PutRel (B : Nat) (w : World) (u0 : Nat) (a b : Value) (wr : World) : Prop :=
  ∃ (u k : Nat) (ns : List Int), a = .int .u64 u ∧ b = .int .i64 k ∧ ns.length = 10 ∧ k + (leb u).length ≤ 10 ∧
    Blk wr B (ns.map (Value.int .u8)).toArray 202 ∧ (ns.take k).map (fun n => UInt8.ofNat n.toNat) ++ leb u = leb u0 ∧ Below B w wr


set_option maxHeartbeats 400000 in
theorem put_any (n : Int) (w : World) (h0 : -9223372036854775808 ≤ n) (h1 : n ≤ 9223372036854775807) :
    Calls Tryz.prog 121 #[.int .i64 n] w fun e w' => e = .returned (.string (bs (putL n))) ∧ Below w.heap.size w w' := by
  have hz := zig_bits h0 h1
  have hlt := zig_lt h0 h1
  have hl10 := leb_len10 hlt
  clear hlt
  go_enter Tryz.func121, Tryz.ntmps121
  go_wp2
  go_loopw [3, 5] (fun a b wr => PutRel w.heap.size w (zig n) a b wr) (fun a _ _ => (intOf a).toNat)
  case atStart =>
    exact ⟨zig n, 0, List.replicate 10 0, rfl, rfl, by simp, by omega, Blk.new _ _ _, by simp, (Below.refl _ _).alloc (Nat.le_refl _) _⟩
  case round =>
    obtain ⟨u, k, ns, rfl, rfl, hns, hk, hB, hcat, hbel⟩ := hrel
    clear h0 h1 hz
    have HN := hid hns
    have HC := hid hcat
    clear hns hcat
    have hp := leb_pos u
    have hc : wr.cell? ⟨w.heap.size, k, none⟩ = some (.int .u8 (ns.getD k 0)) := hB.cell (by
      have : k < ns.length := by have := HN.out; omega
      simp [this])
    have hf := hB.free k
    have HB := hid hB
    clear hB
    have hk10 : k < ns.length := by have := HN.out; omega
    by_cases hbig : u < 128
    · have hs0 : (0 : Int) ≤ (k : Int) + 1 := by omega
      have hs1 : (k : Int) + 1 ≤ 10 := by omega
      have hxl : (ns.take k ++ [(u : Int)]).length = k + 1 := by simp; omega
      have hcv := run_convert_bytes_arg (P := Tryz.prog) (wr.setCell ⟨w.heap.size, k, none⟩ (.int .u8 u)) 113 5 Tryz.underlying113 Tryz.underlying5 w.heap.size 0 (k + 1) 10 (ns.take k ++ [(u : Int)]) hxl (by
        intro i hi
        refine (HB.out.set k (.int .u8 u)).cell ?_
        simp only [Nat.zero_add]
        rw [Array.getElem?_setIfInBounds]
        by_cases e : k = i
        · subst e
          simp [hk10, Nat.min_eq_left (Nat.le_of_lt hk10)]
        · have hik : i < k := by omega
          rw [if_neg e]
          simp [List.getD, List.getElem?_append_left (show i < (ns.take k).length by simp; omega), hik, show i < ns.length by omega])
      clear hxl
      go_wp2
      go_ret
      refine ⟨?_, hbel.setCell (Nat.le_refl _) _⟩
      have e : strOfNums (ns.take k ++ [(u : Int)]) = bs (putL n) := by
        unfold strOfNums putL bs
        rw [← HC.out, leb_small hbig]
        simp
      show Ending.returned (.string (strOfNums (ns.take k ++ [(u : Int)]))) = _
      rw [e]
    · go_wp2
      go_roundw
      case rel =>
        refine ⟨u / 128, k + 1, ns.set k (((u % 128 + 128 : Nat)) : Int), by go_num, by go_num, by simp [HN.out], ?_, ?_, ?_, hbel.setCell (Nat.le_refl _) _⟩
        · rw [leb_big hbig] at hk; simp at hk; omega
        · have h := HB.out.set k (.int .u8 (bits BinOp.or IntKind.u8 ((u : Int) % 256) 128))
          rw [or128] at h ⊢
          simpa using h
        · rw [← HC.out]; exact put_step u k ns hk10 hbig
      case measure => simp [intOf]; omega

def tmpNat (a : Act) (i : Nat) : Nat := (intOf (a.tmps.getD i undef)).toNat

/-- A scope that is a loop by a goto: every way comes to the label. -/
theorem wp_scope_loop {P : Program} {a : Act} {w : World} {Q : Exit → Act → World → Prop} {c rest : Code} (l : Nat) (J : Act → World → Prop) (μ : Act → World → Nat) (hf : findLabel c l = some (Code.seq .skip rest))
    (enter : ∀ Q' : Exit → Act → World → Prop, (∀ a w, J a w → rest.wp P Q' a w) → c.wp P Q' a w)
    (pass : ∀ a w, J a w → rest.wp P (Exit.jump l (fun a' w' => J a' w' ∧ μ a' w' < μ a w) Q) a w) : (Code.scope c).wp P Q a w :=
  wp_scope_jumps (rest := Code.seq .skip rest) l J μ hf (enter _ (fun a w hJ => wp_mono (pass a w hJ) (fun e a w h => by
    cases e <;> first | exact h | exact ⟨h.1, h.2.1⟩))) (fun a w hJ => wp_seq (wp_skip (pass a w hJ)))

/-- What varint.Take answers. -/
def takeV : Option (Nat × List UInt8) → Value
  | none => .tuple #[.int .i64 0, .string ⟨#[]⟩, .int .i64 2]
  | some (u, r) => .tuple #[.int .i64 (unzig u), .string (bs r), .int .i64 0]

def TakeJ (s : ByteArray) (w : World) (a : Act) (w' : World) : Prop :=
  ∃ (u k : Nat) (z1 z2 z3 z4 z7 z8 z9 z10 z11 z12 z13 z14 z15 z16 z17 z18 z19 z20 z21 z22 z23 z24 z25 z26 z27 z28 z29 z30 z31 z32 z33 z34 z35 z36 z37 z38 z39 z40 z41 z42 z43 z44 z45 z46 z47 z48 z49 z50 z51 z52 z53 z54 z55 : Value),
    a = { tmps := #[.string s, z1, z2, z3, z4, .int .u64 u, .int .i64 k, z7, z8, z9, z10, z11, z12, z13, z14, z15, z16, z17, z18, z19, z20, z21, z22, z23, z24, z25, z26, z27, z28, z29, z30, z31, z32, z33, z34, z35, z36, z37, z38, z39, z40, z41, z42, z43, z44, z45, z46, z47, z48, z49, z50, z51, z52, z53, z54, z55], defers := [] } ∧ w' = w ∧ k ≤ s.size ∧ k ≤ 10 ∧ u < 18446744073709551616 ∧ takeL ((tl s).drop k) k u = takeL (tl s) 0 0

def TakePost (s : ByteArray) (w : World) (e : Ending) (w' : World) : Prop :=
  e = .returned (takeV (takeL (tl s) 0 0)) ∧ ∃ n, w' = w.drewN n

set_option maxHeartbeats 1000000 in
theorem take_any (s : ByteArray) (w : World) (hs : s.size ≤ 140737488355328) :
    Calls Tryz.prog 88 #[.string s] w (TakePost s w) := by
  go_enter Tryz.func88, Tryz.ntmps88
  go_wp2
  refine wp_scope_loop 0 (TakeJ s w) (fun a _ => 10 - tmpNat a 6) rfl ?_ ?_
  · intro Q' H
    go_wp2
    go_step3
    go_step
    go_step
    exact H _ _ ⟨0, 0, _, _, _, _, _, _, _, _, _, _, _, _, _, _, _, _, _, _, _, _, _, _, _, _, _, _, _, _, _, _, _, _, _, _, _, _, _, _, _, _, _, _, _, _, _, _, _, _, _, _, _, _, _, rfl, rfl, by omega, by omega, by omega, rfl⟩
  · rintro a w' ⟨u, k, z1, z2, z3, z4, z7, z8, z9, z10, z11, z12, z13, z14, z15, z16, z17, z18, z19, z20, z21, z22, z23, z24, z25, z26, z27, z28, z29, z30, z31, z32, z33, z34, z35, z36, z37, z38, z39, z40, z41, z42, z43, z44, z45, z46, z47, z48, z49, z50, z51, z52, z53, z54, z55, rfl, rfl, hk, hk10, hu, hT⟩
    have HU := hid hu
    have HT := hid hT
    clear hu hT
    by_cases h1 : k = s.size
    · have h1' : ((k : Int) == (s.size : Int)) = true := beq_iff_eq.2 (by omega)
      have hn : takeL (tl s) 0 0 = none := by
        rw [← HT.out, List.drop_eq_nil_of_le (by rw [tl_len]; omega)]; rfl
      have HNn := hid hn
      have H1 := hid h1
      clear hn h1
      go_wp2
      go_ret3
      exact ⟨by rw [HNn.out]; rfl, 0, rfl⟩
    have h1' : ((k : Int) == (s.size : Int)) = false := beq_eq_false_iff_ne.2 (by omega)
    have h3 : k < s.size := by omega
    have hd := drop_byte s k h3
    rw [hd] at HT
    clear hd
    by_cases h2 : k = 10
    · have h2' : ((k : Int) == 10) = true := beq_iff_eq.2 (by omega)
      have hn : takeL (tl s) 0 0 = none := by
        rw [← HT.out, takeL, if_pos h2]
      have HNn := hid hn
      have H2 := hid h2
      clear hn h2
      go_wp2
      go_ret3
      exact ⟨by rw [HNn.out]; rfl, 0, rfl⟩
    have h2' : ((k : Int) == 10) = false := beq_eq_false_iff_ne.2 (by omega)
    have h4 : (0 : Int) ≤ 7 * (k : Int) := by omega
    have h5 : 7 * (k : Int) ≤ 64 := by omega
    have hc := s[k].toNat_lt
    have hacc := acc_bits u k s[k].toNat HU.out hc
    have HA := hid (acc_lt u k s[k].toNat HU.out)
    generalize hcv : s[k].toNat = c at *
    by_cases h6 : 128 ≤ c
    · have HT' : Hid (takeL ((tl s).drop (k + 1)) (k + 1) (acc u k c) = takeL (tl s) 0 0) := by
        have h := HT.out
        rw [takeL, if_neg h2, hcv, if_pos h6] at h
        exact h
      clear HT
      go_wp2
      refine wp_goto ?_
      refine ⟨rfl, ⟨acc u k c, k + 1, _, _, _, _, _, _, _, _, _, _, _, _, _, _, _, _, _, _, _, _, _, _, _, _, _, _, _, _, _, _, _, _, _, _, _, _, _, _, _, _, _, _, _, _, _, _, _, _, _, _, _, _, _, rfl, rfl, by omega, by omega, HA.out, HT'.out⟩, ?_⟩
      show 10 - (((k + 1 : Nat) : Int)).toNat < 10 - ((k : Int)).toNat
      omega
    · by_cases h7 : (1 ≤ k ∧ c = 0) ∨ (k = 9 ∧ 1 < c)
      · have hn : takeL (tl s) 0 0 = none := by
          rw [← HT.out, takeL, if_neg h2, hcv, if_neg h6, if_pos h7]
        have HNn := hid hn
        clear hn HT
        rcases h7 with ⟨h8, h9⟩ | ⟨h8, h9⟩
        · have h9' : ((c : Int) == 0) = true := beq_iff_eq.2 (by omega)
          clear h9
          go_wp2
          go_ret3
          exact ⟨by rw [HNn.out]; rfl, 0, rfl⟩
        · have h9' : ((c : Int) == 0) = false := beq_eq_false_iff_ne.2 (by omega)
          have h8' : ((k : Int) + 1 == 10) = true := beq_iff_eq.2 (by omega)
          have h8'' : (1 : Int) < (k : Int) + 1 := by omega
          have h9'' : (1 : Int) < (c : Int) := by omega
          clear h8
          go_wp2
          go_ret3
          exact ⟨by rw [HNn.out]; rfl, 0, rfl⟩
      · have hn : takeL (tl s) 0 0 = some (acc u k c, (tl s).drop (k + 1)) := by
          rw [← HT.out, takeL, if_neg h2, hcv, if_neg h6, if_neg h7]
        have HNn := hid hn
        clear hn HT
        have hz := unzig_walk (acc u k c) HA.out
        have hsx := extract_drop s (k + 1)
        have hk2 : (0 : Int) ≤ (k : Int) + 1 := by omega
        have hk3 : (k : Int) + 1 ≤ (s.size : Int) := by omega
        by_cases h8 : k = 0
        · have h8' : decide ((1 : Int) < (k : Int) + 1) = false := by simp; omega
          have h9' : ((k : Int) + 1 == 10) = false := beq_eq_false_iff_ne.2 (by omega)
          clear h8
          go_wp2
          go_quiet (fail)
          go_wp2
          go_ret3
          exact ⟨by rw [HNn.out]; rfl, _, rfl⟩
        · have h8' : decide ((1 : Int) < (k : Int) + 1) = true := by simp; omega
          have h10' : ((c : Int) == 0) = false := beq_eq_false_iff_ne.2 (by omega)
          by_cases h11 : k = 9
          · have h9' : ((k : Int) + 1 == 10) = true := beq_iff_eq.2 (by omega)
            have h12' : decide ((1 : Int) < (c : Int)) = false := by simp; omega
            have h13 : ¬ (1 : Int) < (c : Int) := by omega
            clear h11
            go_wp2
            go_quiet (fail)
            go_wp2
            go_ret3
            exact ⟨by rw [HNn.out]; rfl, _, rfl⟩
          · have h9' : ((k : Int) + 1 == 10) = false := beq_eq_false_iff_ne.2 (by omega)
            go_wp2
            go_quiet (fail)
            go_wp2
            go_ret3
            exact ⟨by rw [HNn.out]; rfl, _, rfl⟩

theorem take_none (s : ByteArray) (w : World) (hs : s.size ≤ 140737488355328) (h : takeL (tl s) 0 0 = none) :
    Calls Tryz.prog 88 #[.string s] w fun e w' => e = .returned (.tuple #[.int .i64 0, .string ⟨#[]⟩, .int .i64 2]) ∧ Below w.heap.size w w' :=
  (take_any s w hs).mono fun e w' ⟨he, n, hw⟩ => by rw [h] at he; subst hw; exact ⟨he, bel_drewN _ _ _⟩

theorem take_some (s : ByteArray) (u : Nat) (r : List UInt8) (w : World) (hs : s.size ≤ 140737488355328) (h : takeL (tl s) 0 0 = some (u, r)) :
    Calls Tryz.prog 88 #[.string s] w fun e w' => e = .returned (.tuple #[.int .i64 (unzig u), .string (bs r), .int .i64 0]) ∧ Below w.heap.size w w' :=
  (take_any s w hs).mono fun e w' ⟨he, n, hw⟩ => by rw [h] at he; subst hw; exact ⟨he, bel_drewN _ _ _⟩

end Go.Proofs.YtnibpknhpjcamaaGreatDoor
