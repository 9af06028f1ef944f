/-
  Chapter 11's laws: fresh, awake, and offsets that are none: the walks. No conditions.
  OffsetsNone: the walk. No conditions.
-/
import Derived.Test.YtjodkcjlipecdaaGreatDoorGUM
import Derived.Test.YtjodkcjlipecdaaGreatDoorGQM
set_option maxRecDepth 100000
namespace Go.Proofs.YtjodkcjlipecdaaGreatDoor
open Go.RowKit

def FreshOff (w : World) (parts : Nat) (e : Ending) (w' : World) : Prop :=
  ∃ (o l d : Nat) (S SL SD : Nat → Prop), e = .returned (.tuple #[.pointer (some ⟨o, 0, none⟩), .pointer (some ⟨d, 0, none⟩)]) ∧ Offs w' o l d S SL SD (POff.init parts) aO.toP dO ∧ Below w.heap.size w w' ∧ (∀ k, S k → w.heap.size ≤ k) ∧ (∀ k, SL k → w.heap.size ≤ k) ∧ (∀ k, SD k → w.heap.size ≤ k)

set_option maxHeartbeats 1000000 in
theorem fresh_any (parts : Nat) (w : World) (hp : 1 ≤ parts ∧ parts ≤ 4) : Calls Tryz.prog 26 #[.int .i64 parts] w (FreshOff w parts) := by
  go_enter Tryz.func26, Tryz.ntmps26
  go_wp2_with fail
  refine (new_any 1000 w (by omega)).mono ?_
  rintro e w1 ⟨rfl, hd, hb1⟩
  unfold ptr
  have hda : DiskAt w1 (w.heap.size + 1) (foot (w.heap.size + 1) w.heap.size []) dO := ⟨_, _, hd, fun _ => Iff.rfl⟩
  have hS0 : ∀ k, foot (w.heap.size + 1) w.heap.size [] k → w.heap.size ≤ k := by
    rintro k (rfl | rfl | h)
    · omega
    · omega
    · simp at h
  generalize foot (w.heap.size + 1) w.heap.size [] = SD at hda hS0
  clear hd
  generalize w.heap.size + 1 = d at hda ⊢
  have HDA := hid hda
  have HS0 := hid hS0
  have HB1 := hid hb1
  clear hda hS0 hb1
  go_wp2_with fail
  refine (offOpen_good (N := 1000) parts hp HDA.out dO_wf dO_open aO_inv dO_wf rfl rfl (O := POff.init parts) rfl).mono ?_
  rintro e w2 ⟨o, l, S, SL, SD2, rfl, hoffs, hfr, hs, hsl, hsd⟩
  have hsz := HB1.out.size
  have HP : Hid (FreshOff w parts (.returned (.tuple #[.pointer (some ⟨o, 0, none⟩), .pointer (some ⟨d, 0, none⟩)])) w2) := hid (by
    refine ⟨o, l, d, S, SL, SD2, rfl, hoffs, HB1.out.trans (hfr.to_below hsz (fun k hk h9 => by have := HS0.out k h9; omega)), fun k hk => ?_, fun k hk => ?_, fun k hk => ?_⟩
    · have := hs k hk; omega
    · have := hsl k hk; omega
    · rcases hsd k hk with h9 | h9
      · exact HS0.out k h9
      · omega)
  clear hoffs hfr hs hsl hsd
  go_wp2_with fail
  go_ret2
  exact HP.out

/-- Offsets and what they lie in, all made since w. -/
structure OffMade (w wr : World) (o l d : Nat) (S SL SD : Nat → Prop) (O : POff) (L : PLog) (D : PDisk) : Prop where
  offs : Offs wr o l d S SL SD O L D
  bel : Below w.heap.size w wr
  s : ∀ k, S k → w.heap.size ≤ k
  sl : ∀ k, SL k → w.heap.size ≤ k
  sd : ∀ k, SD k → w.heap.size ≤ k

theorem OffMade.below {w wr w2 : World} {o l d : Nat} {S SL SD : Nat → Prop} {O : POff} {L : PLog} {D : PDisk} (h : OffMade w wr o l d S SL SD O L D) (hb : Below wr.heap.size wr w2) : OffMade w w2 o l d S SL SD O L D :=
  ⟨h.offs.below hb, bel_next h.bel hb, h.s, h.sl, h.sd⟩

theorem OffMade.to {w wr w2 : World} {o l d : Nat} {S SL SD : Nat → Prop} {O O2 : POff} {L L2 : PLog} {D D2 : PDisk} (h : OffMade w wr o l d S SL SD O L D) (hto : OffsTo wr w2 o l d S SL SD O2 L2 D2) : ∃ S2 SL2 SD2, OffMade w w2 o l d S2 SL2 SD2 O2 L2 D2 := by
  obtain ⟨S2, SL2, SD2, a, f, s, t, u⟩ := hto
  have hsz := h.bel.size
  refine ⟨S2, SL2, SD2, a, h.bel.trans (f.to_below hsz (fun k hk h9 => ?_)), fun k hk => ?_, fun k hk => ?_, fun k hk => ?_⟩
  · rcases h9 with h9 | h9 | h9
    · have := h.s k h9; omega
    · have := h.sl k h9; omega
    · have := h.sd k h9; omega
  · rcases s k hk with h9 | h9
    · exact h.s k h9
    · omega
  · rcases t k hk with h9 | h9
    · exact h.sl k h9
    · omega
  · rcases u k hk with h9 | h9
    · exact h.sd k h9
    · omega

def AwakePost11 (w : World) (e : Ending) (w' : World) : Prop := e = .returned (.bool true) ∧ Below w.heap.size w w'

set_option maxHeartbeats 2000000 in
theorem awake11_any (w : World) : Calls Tryz.prog 31 #[] w (AwakePost11 w) := by
  have HG0 := hid (new_good 2)
  have HG1 := hid w1_good
  have HG2 := hid w2_good
  have HG3 := hid w3_good
  go_enter Tryz.func31, Tryz.ntmps31
  go_wp2_with fail
  refine (fresh_any 2 w (by omega)).mono ?_
  rintro e w1 ⟨o, l, d, S, SL, SD, rfl, ho, hb, hs, hsl, hsd⟩
  have HM := hid (OffMade.mk ho hb hs hsl hsd)
  clear ho hb hs hsl hsd
  go_wp2_with fail
  refine (pendOne_any (N := 1000) 1 1 0 0 5 HM.out.offs HG0.out.ok (by rw [HG0.out.len]; decide) (fun _ => ⟨HG0.out.inv, HG0.out.wf⟩)).mono ?_
  rintro e w2 ⟨rfl, hto⟩
  obtain ⟨S1, SL1, SD1, hm1⟩ := HM.out.to hto
  have e1 : (POff.init 2).pendOne aO.toP dO 1 1 0 0 5 = w1O := rfl
  rw [e1] at hm1 ⊢
  rw [w1_code]
  obtain ⟨A1, ha1, hg1, hf1⟩ := HG1.out
  have HM1 := hid hm1
  have HG1' := hid hg1
  have HA1 := hid ha1
  clear hto hm1 e1 ha1 hg1 hf1 HM
  go_wp2_with fail
  refine (offFetch_any 0 HM1.out.offs HG1'.out.ok (by rw [HG1'.out.len]; decide)).mono ?_
  rintro e w3 ⟨rfl, hb3⟩
  rw [w1_fetch]
  have HM2 := hid (HM1.out.below hb3)
  clear hb3 HM1
  dsimp only
  rw [HA1.out] at HM2
  go_wp2_with fail
  refine (pendOne_any (N := 1000) 2 1 0 0 7 HM2.out.offs HG1'.out.ok (by rw [HG1'.out.len]; decide) (fun _ => ⟨HG1'.out.inv, HG1'.out.wf⟩)).mono ?_
  rintro e w4 ⟨rfl, hto⟩
  obtain ⟨S2, SL2, SD2, hm2⟩ := HM2.out.to hto
  have e2 : w1O.1.pendOne A1.toP w1O.2.2.1 2 1 0 0 7 = w2O := by rw [← HA1.out]; rfl
  rw [e2] at hm2 ⊢
  rw [w2_code]
  obtain ⟨A2, ha2, hg2, hf2⟩ := HG2.out
  have HA2 := hid ha2
  rw [ha2] at hm2
  have HM3 := hid hm2
  have HG2' := hid hg2
  clear hto hm2 e2 ha2 hg2 hf2 HM2
  go_wp2_with fail
  refine (done_any (N := 1000) 1 1 true HM3.out.offs HG2'.out.ok (by rw [HG2'.out.len]; decide) (fun _ => ⟨HG2'.out.inv, HG2'.out.wf⟩)).mono ?_
  rintro e w5 ⟨rfl, hto⟩
  obtain ⟨S3, SL3, SD3, hm3⟩ := HM3.out.to hto
  have e3 : w2O.1.done A2.toP w2O.2.2.1 1 1 true = w3O := by rw [← HA2.out]; rfl
  rw [e3] at hm3 ⊢
  rw [w3_code]
  obtain ⟨A3, ha3, hg3, hf3⟩ := HG3.out
  have HA3 := hid ha3
  have HM4 := hid hm3
  have HG3' := hid hg3
  clear hto hm3 e3 ha3 hg3 hf3 HM3
  go_wp2_with fail
  refine (offFetch_any 0 HM4.out.offs HG3'.out.ok (by rw [HG3'.out.len]; decide)).mono ?_
  rintro e w6 ⟨rfl, hb6⟩
  rw [w3_fetch]
  have HM5 := hid (HM4.out.below hb6)
  clear hb6 HM4
  dsimp only
  rw [HA3.out] at HM5
  go_wp2_with fail
  refine (pendOne_any (N := 1000) 2 1 0 0 7 HM5.out.offs HG3'.out.ok (by rw [HG3'.out.len]; decide) (fun _ => ⟨HG3'.out.inv, HG3'.out.wf⟩)).mono ?_
  rintro e w7 ⟨rfl, hto⟩
  obtain ⟨S4, SL4, SD4, hm4⟩ := HM5.out.to hto
  have e4 : (w3O.1.pendOne A3.toP w3O.2.2.1 2 1 0 0 7).2.2.2 = 12 := by rw [← HA3.out]; exact w4_code
  rw [e4]
  have HB9 := hid hm4.bel
  clear hto hm4 e4 HM5
  go_wp2_with fail
  go_ret
  exact ⟨rfl, HB9.out⟩
end Go.Proofs.YtjodkcjlipecdaaGreatDoor

namespace Go.Proofs.YtjodkcjlipecdaaGreatDoor
open Go.RowKit

set_option maxHeartbeats 1000000 in
theorem offOpen_nil (w : World) : Calls Tryz.prog 36 #[.pointer none, .int .i64 1] w fun e w' => e = .returned (.tuple #[.pointer none, .int .i64 1]) ∧ w = w' := by
  go_enter Tryz.func36, Tryz.ntmps36
  go_wp2_with fail
  refine (open_nil _).mono ?_
  rintro e w1 ⟨rfl, rfl⟩
  go_wp2_with fail
  go_ret2
  exact ⟨rfl, rfl⟩

set_option maxHeartbeats 1000000 in
theorem offFetch_nil (a : Int) (w : World) : Calls Tryz.prog 32 #[.pointer none, .int .i64 a] w fun e w' => e = .returned (.tuple #[.int .i64 0, .int .i64 1]) ∧ Below w.heap.size w w' := by
  have HB := hid (bel_alloc (Below.refl w.heap.size w) (.cells #[.int .i64 a] 3))
  go_enter Tryz.func32, Tryz.ntmps32
  go_wp2_with fail
  go_ret2
  exact ⟨rfl, HB.out⟩

set_option maxHeartbeats 1000000 in
theorem genOf_nil (w : World) : Calls Tryz.prog 35 #[.pointer none] w fun e w' => e = .returned (.tuple #[.int .i64 0, .int .i64 0]) ∧ w = w' := by
  go_enter Tryz.func35, Tryz.ntmps35
  go_wp2_with fail
  go_ret2
  exact ⟨rfl, rfl⟩

set_option maxHeartbeats 1000000 in
theorem begin_nil (a b : Int) (w : World) : Calls Tryz.prog 37 #[.pointer none, .int .i64 a, .int .i64 b] w fun e w' => e = .returned (.int .i64 1) ∧ w = w' := by
  go_enter Tryz.func37, Tryz.ntmps37
  go_wp2_with fail
  go_ret
  exact ⟨rfl, rfl⟩

set_option maxHeartbeats 1000000 in
theorem pendOne_nil (a b p f o : Int) (w : World) : Calls Tryz.prog 30 #[.pointer none, .int .i64 a, .int .i64 b, .int .i64 p, .int .i64 f, .int .i64 o] w fun e w' => e = .returned (.int .i64 1) ∧ Below w.heap.size w w' := by
  have HB := hid (bel_alloc (Below.refl w.heap.size w) (.cells #[.int .i64 p] 3))
  go_enter Tryz.func30, Tryz.ntmps30
  go_wp2_with fail
  go_ret
  exact ⟨rfl, HB.out⟩

set_option maxHeartbeats 1000000 in
theorem done_nil (a b : Int) (y : Bool) (w : World) : Calls Tryz.prog 33 #[.pointer none, .int .i64 a, .int .i64 b, .bool y] w fun e w' => e = .returned (.int .i64 1) ∧ Below w.heap.size w w' := by
  have HB := hid (bel_alloc (bel_alloc (Below.refl w.heap.size w) (.cells #[.int .i64 a] 3)) (.cells #[.int .i64 b] 3))
  go_enter Tryz.func33, Tryz.ntmps33
  go_wp2_with fail
  go_ret
  exact ⟨rfl, HB.out⟩

set_option maxHeartbeats 1000000 in
theorem committed_nil (w : World) : Calls Tryz.prog 29 #[.pointer none] w fun e w' => e = .returned (.slice none 0 0) ∧ w = w' := by
  go_enter Tryz.func29, Tryz.ntmps29
  go_wp2_with fail
  go_ret
  exact ⟨rfl, rfl⟩

set_option maxHeartbeats 1000000 in
theorem pends_nil (w : World) : Calls Tryz.prog 34 #[.pointer none] w fun e w' => e = .returned (.slice none 0 0) ∧ w = w' := by
  go_enter Tryz.func34, Tryz.ntmps34
  go_wp2_with fail
  go_ret
  exact ⟨rfl, rfl⟩

set_option maxHeartbeats 2000000 in
theorem offNone_any (a b c : Int) (y : Bool) (w : World) : Calls Tryz.prog 6 #[.int .i64 a, .int .i64 b, .int .i64 c, .bool y] w (AwakePost11 w) := by
  go_enter Tryz.func6, Tryz.ntmps6
  go_wp2_with fail
  refine (offOpen_nil _).mono ?_
  rintro e w1 ⟨rfl, rfl⟩
  go_wp2_with fail
  refine (offFetch_nil a _).mono ?_
  rintro e w2 ⟨rfl, hb2⟩
  have HB2 := hid hb2
  clear hb2
  go_wp2_with fail
  refine (genOf_nil _).mono ?_
  rintro e w3 ⟨rfl, rfl⟩
  go_wp2_with fail
  refine (begin_nil a b _).mono ?_
  rintro e w3 ⟨rfl, rfl⟩
  go_wp2_with fail
  refine (pendOne_nil 1 1 0 b c _).mono ?_
  rintro e w3 ⟨rfl, hb3⟩
  have HB3 := hid (bel_next HB2.out hb3)
  clear hb3 HB2
  go_wp2_with fail
  refine (done_nil 1 1 y _).mono ?_
  rintro e w4 ⟨rfl, hb4⟩
  have HB4 := hid (bel_next HB3.out hb4)
  clear hb4 HB3
  go_wp2_with fail
  refine (committed_nil _).mono ?_
  rintro e w5 ⟨rfl, rfl⟩
  go_wp2_with fail
  refine (pends_nil _).mono ?_
  rintro e w5 ⟨rfl, rfl⟩
  go_wp2_with fail
  refine (awake11_any _).mono ?_
  rintro e w6 ⟨rfl, hb6⟩
  have HB6 := hid (bel_next HB4.out hb6)
  clear HB4 hb6
  go_wp2_with fail
  go_ret
  exact ⟨rfl, HB6.out⟩
end Go.Proofs.YtjodkcjlipecdaaGreatDoor
