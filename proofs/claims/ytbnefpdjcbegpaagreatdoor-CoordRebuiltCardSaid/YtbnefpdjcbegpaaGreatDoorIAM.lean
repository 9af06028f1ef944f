/-
  CoordRebuilt, plain: a deed comes to the same on two coordinators with the same rows; two coordinators in memory. No conditions.
  CoordRebuilt: the walk. No conditions but deeds that read.
-/
import Derived.Test.YtbnefpdjcbegpaaGreatDoorHTM
import Derived.Test.YtbnefpdjcbegpaaGreatDoorGOM
import Derived.Test.YtbnefpdjcbegpaaGreatDoorGKM
import Derived.Deep.DeepCutAuto
set_option maxRecDepth 100000
namespace Go.Proofs.YtbnefpdjcbegpaaGreatDoor
open Go.RowKit

/-- The same rows, log and disk. -/
structure SameRes (r s : CRes) : Prop where
  rows : r.C.rows = s.C.rows
  log : r.L = s.L
  disk : r.D = s.D

section
variable {rows : List PTr} {u v : List Int} {y z : Int} {L : PLog} {D : PDisk} {pid ep parts : Int} {yes : Bool}

theorem init_same : SameRes ((PCo.mk rows u y).init L D pid) ((PCo.mk rows v z).init L D pid) := by
  unfold PCo.init
  dsimp only
  by_cases h1 : coReady L pid ≠ 0
  · rw [if_pos h1, if_pos h1]; exact ⟨rfl, rfl, rfl⟩
  · rw [if_neg h1, if_neg h1]
    by_cases h2 : rowC rows pid = 0 ∧ (rowZ rows pid).state ≠ 1
    · rw [if_pos h2, if_pos h2]; exact ⟨rfl, rfl, rfl⟩
    · rw [if_neg h2, if_neg h2]
      by_cases h3 : (coWrite rows L D ⟨1, pid, 0⟩).2.2.2 ≠ 0
      · rw [if_pos h3, if_pos h3]; exact ⟨rfl, rfl, rfl⟩
      · rw [if_neg h3, if_neg h3]; exact ⟨rfl, rfl, rfl⟩

theorem add_same : SameRes ((PCo.mk rows u y).add L D pid ep parts) ((PCo.mk rows v z).add L D pid ep parts) := by
  unfold PCo.add
  dsimp only
  by_cases h1 : ¬ (TNote.mk 2 pid parts).ok
  · rw [if_pos h1, if_pos h1]; exact ⟨rfl, rfl, rfl⟩
  · rw [if_neg h1, if_neg h1]
    by_cases h2 : coReady L pid ≠ 0
    · rw [if_pos h2, if_pos h2]; exact ⟨rfl, rfl, rfl⟩
    · rw [if_neg h2, if_neg h2]
      by_cases h3 : rowE rows pid ep ≠ 0
      · rw [if_pos h3, if_pos h3]; exact ⟨rfl, rfl, rfl⟩
      · rw [if_neg h3, if_neg h3]
        by_cases h4 : (rowZ rows pid).state = 3 ∨ (rowZ rows pid).state = 4
        · rw [if_pos h4, if_pos h4]; exact ⟨rfl, rfl, rfl⟩
        · rw [if_neg h4, if_neg h4]
          by_cases h5 : andI (rowZ rows pid).parts parts = parts
          · rw [if_pos h5, if_pos h5]; exact ⟨rfl, rfl, rfl⟩
          · rw [if_neg h5, if_neg h5]
            by_cases h6 : (coWrite rows L D ⟨2, pid, parts⟩).2.2.2 ≠ 0
            · rw [if_pos h6, if_pos h6]; exact ⟨rfl, rfl, rfl⟩
            · rw [if_neg h6, if_neg h6]; exact ⟨rfl, rfl, rfl⟩

theorem fin_same : SameRes ((PCo.mk rows u y).fin L D pid ep yes) ((PCo.mk rows v z).fin L D pid ep yes) := by
  unfold PCo.fin
  dsimp only
  generalize (if yes = true then (3 : Int) else 4) = k
  by_cases h1 : coReady L pid ≠ 0
  · rw [if_pos h1, if_pos h1]; exact ⟨rfl, rfl, rfl⟩
  · rw [if_neg h1, if_neg h1]
    by_cases h2 : rowE rows pid ep = 8 ∧ (rowZ rows pid).epoch - 1 = ep ∧ (rowZ rows pid).state = 1 ∧ (rowZ rows pid).last = k
    · rw [if_pos h2, if_pos h2]; exact ⟨rfl, rfl, rfl⟩
    · rw [if_neg h2, if_neg h2]
      by_cases h3 : rowE rows pid ep ≠ 0
      · rw [if_pos h3, if_pos h3]; exact ⟨rfl, rfl, rfl⟩
      · rw [if_neg h3, if_neg h3]
        by_cases h4 : (rowZ rows pid).state = k
        · rw [if_pos h4, if_pos h4]; exact ⟨rfl, rfl, rfl⟩
        · rw [if_neg h4, if_neg h4]
          by_cases h5 : (rowZ rows pid).state ≠ 2
          · rw [if_pos h5, if_pos h5]; exact ⟨rfl, rfl, rfl⟩
          · rw [if_neg h5, if_neg h5]; exact ⟨rfl, rfl, rfl⟩

theorem complete_same : SameRes ((PCo.mk rows u y).complete L D pid) ((PCo.mk rows v z).complete L D pid) := by
  unfold PCo.complete
  dsimp only
  by_cases h1 : coReady L pid ≠ 0
  · rw [if_pos h1, if_pos h1]; exact ⟨rfl, rfl, rfl⟩
  · rw [if_neg h1, if_neg h1]
    by_cases h3 : (coWrite rows L D ⟨5, pid, 0⟩).2.2.2 ≠ 0
    · rw [if_pos h3, if_pos h3]; exact ⟨rfl, rfl, rfl⟩
    · rw [if_neg h3, if_neg h3]; exact ⟨rfl, rfl, rfl⟩
end

theorem does_same {C C' : PCo} (h : C.rows = C'.rows) (L : PLog) (D : PDisk) (x : CDeed) (ep : Int) : SameRes (C.does L D x ep) (C'.does L D x ep) := by
  obtain ⟨rows, u, y⟩ := C
  obtain ⟨rows', v, z⟩ := C'
  dsimp only at h
  subst h
  unfold PCo.does
  by_cases h1 : x.kind = 0
  · rw [if_pos h1, if_pos h1]; exact init_same
  · rw [if_neg h1, if_neg h1]
    by_cases h2 : x.kind = 1 ∨ x.kind = 2 ∨ x.kind = 3
    · rw [if_pos h2, if_pos h2]; exact add_same
    · rw [if_neg h2, if_neg h2]
      by_cases h3 : x.kind = 4 ∨ x.kind = 5
      · rw [if_pos h3, if_pos h3]; exact fin_same
      · rw [if_neg h3, if_neg h3]
        by_cases h4 : x.kind = 6 ∨ x.kind = 7
        · rw [if_pos h4, if_pos h4]; exact complete_same
        · rw [if_neg h4, if_neg h4]
          by_cases h5 : x.kind = 8 ∨ x.kind = 9 ∨ x.kind = 10
          · rw [if_pos h5, if_pos h5]; exact ⟨rfl, rfl, rfl⟩
          · rw [if_neg h5, if_neg h5]; exact ⟨rfl, rfl, rfl⟩

theorem Trio.fr13 {X : Thing PCo} {w w' : World} {l d : Nat} {S SL SD F : Nat → Prop} {O : PCo} {L : PLog} {D : PDisk} (h : Trio X w l d S SL SD O L D) (hf : Fr F w w') (hn : ∀ k, (S k ∨ SL k ∨ SD k) → ¬ F k) : Trio X w' l d S SL SD O L D :=
  ⟨X.fr h.obj hf (fun k hk => hn k (.inl hk)), h.log.fr hf (fun k hk => hn k (.inr (.inl hk))), h.disk.fr hf (fun k hk => hn k (.inr (.inr hk)))⟩

theorem CoMade.fr13 {w wr w2 : World} {c l d : Nat} {S SL SD F : Nat → Prop} {C : PCo} {L : PLog} {D : PDisk} (h : CoMade w wr c l d S SL SD C L D) (hf : Fr F wr w2) (hF : ∀ k, F k → w.heap.size ≤ k) (hn : ∀ k, (S k ∨ SL k ∨ SD k) → ¬ F k) : CoMade w w2 c l d S SL SD C L D :=
  ⟨h.trio.fr13 hf hn, h.bel.trans (hf.to_below h.bel.size (fun k hk h9 => by have := hF k h9; omega)), h.s, h.sl, h.sd⟩

theorem CoMade.lt {w wr : World} {c l d : Nat} {S SL SD : Nat → Prop} {C : PCo} {L : PLog} {D : PDisk} (h : CoMade w wr c l d S SL SD C L D) {k : Nat} (hk : S k ∨ SL k ∨ SD k) : k < wr.heap.size := by
  rcases hk with hk | hk | hk
  · exact Thing.lt h.trio.obj hk
  · exact h.trio.log.lt hk
  · exact h.trio.disk.lt hk

theorem CoMade.ge {w wr : World} {c l d : Nat} {S SL SD : Nat → Prop} {C : PCo} {L : PLog} {D : PDisk} (h : CoMade w wr c l d S SL SD C L D) {k : Nat} (hk : S k ∨ SL k ∨ SD k) : w.heap.size ≤ k := by
  rcases hk with hk | hk | hk
  · exact h.s k hk
  · exact h.sl k hk
  · exact h.sd k hk

theorem CoMade.since {w w0 wr : World} {c l d : Nat} {S SL SD : Nat → Prop} {C : PCo} {L : PLog} {D : PDisk} (h : CoMade w0 wr c l d S SL SD C L D) (hb : Below w.heap.size w w0) : CoMade w wr c l d S SL SD C L D := by
  have hsz := hb.size
  exact ⟨h.trio, bel_next hb h.bel, fun k hk => by have := h.s k hk; omega, fun k hk => by have := h.sl k hk; omega, fun k hk => by have := h.sd k hk; omega⟩

/-- Two coordinators, each with blocks of its own. -/
structure Both (w wr : World) (c l d : Nat) (S SL SD : Nat → Prop) (C : PCo) (L : PLog) (D : PDisk) (c2 l2 d2 : Nat) (S2 SL2 SD2 : Nat → Prop) (C2 : PCo) (L2 : PLog) (D2 : PDisk) : Prop where
  one : CoMade w wr c l d S SL SD C L D
  two : CoMade w wr c2 l2 d2 S2 SL2 SD2 C2 L2 D2
  apart : ∀ k, (S k ∨ SL k ∨ SD k) → ¬ (S2 k ∨ SL2 k ∨ SD2 k)

section
variable {w wr w2 : World} {c l d c2 l2 d2 : Nat} {S SL SD S2 SL2 SD2 : Nat → Prop} {C C2 C3 : PCo} {L L2 L3 : PLog} {D D2 D3 : PDisk}

theorem Both.swap (h : Both w wr c l d S SL SD C L D c2 l2 d2 S2 SL2 SD2 C2 L2 D2) : Both w wr c2 l2 d2 S2 SL2 SD2 C2 L2 D2 c l d S SL SD C L D :=
  ⟨h.two, h.one, fun k h1 h2 => h.apart k h2 h1⟩

theorem Both.below (h : Both w wr c l d S SL SD C L D c2 l2 d2 S2 SL2 SD2 C2 L2 D2) (hb : Below wr.heap.size wr w2) : Both w w2 c l d S SL SD C L D c2 l2 d2 S2 SL2 SD2 C2 L2 D2 :=
  ⟨h.one.below hb, h.two.below hb, h.apart⟩

/-- A call on the one. -/
theorem Both.call (h : Both w wr c l d S SL SD C L D c2 l2 d2 S2 SL2 SD2 C2 L2 D2) (hto : TrioTo (coThing c l) wr w2 l d S SL SD C3 L3 D3) : ∃ S3 SL3 SD3, Both w w2 c l d S3 SL3 SD3 C3 L3 D3 c2 l2 d2 S2 SL2 SD2 C2 L2 D2 := by
  have hge := fun k hk => h.one.ge (k := k) hk
  have hlt := fun k hk => h.two.lt (k := k) hk
  obtain ⟨S3, SL3, SD3, a, f, s, t, u⟩ := hto
  have htwo := h.two.fr13 f hge (fun k h1 h2 => h.apart k h2 h1)
  have hsz := h.one.bel.size
  refine ⟨S3, SL3, SD3, ⟨a, htwo.bel, fun k hk => ?_, fun k hk => ?_, fun k hk => ?_⟩, htwo, fun k hk h9 => ?_⟩
  · rcases s k hk with h9 | h9
    · exact h.one.s k h9
    · omega
  · rcases t k hk with h9 | h9
    · exact h.one.sl k h9
    · omega
  · rcases u k hk with h9 | h9
    · exact h.one.sd k h9
    · omega
  · have h8 := hlt k h9
    rcases hk with hk | hk | hk
    · rcases s k hk with h7 | h7
      · exact h.apart k (.inl h7) h9
      · omega
    · rcases t k hk with h7 | h7
      · exact h.apart k (.inr (.inl h7)) h9
      · omega
    · rcases u k hk with h7 | h7
      · exact h.apart k (.inr (.inr h7)) h9
      · omega
end
end Go.Proofs.YtbnefpdjcbegpaaGreatDoor

namespace Go.Proofs.YtbnefpdjcbegpaaGreatDoor
open Go.RowKit

def RebMid (w : World) (c l d c2 l2 d2 : Nat) (C C2 : PCo) (A : ALog) (D : PDisk) (b : Nat) (K : Value) (wx : World) : Prop :=
  ∃ (S SL SD S2 SL2 SD2 : Nat → Prop) (y : CDeed), Both w wx c l d S SL SD C A.toP D c2 l2 d2 S2 SL2 SD2 C2 A.toP D ∧ Blk wx b #[.int .i64 y.kind, .int .i64 y.pid, .int .i64 y.epoch, .int .i64 y.parts, .bool y.yes, .bool y.near, K] 49

set_option maxHeartbeats 40000000 in
theorem rebuilt_any {w : World} {v : Value} {l : List CDeed} (x : CDeed) (ka : Option Addr) (kn kc : Nat) (h : InCDeeds w v l) :
    Calls Tryz.prog 6 #[v, .agg #[.int .i64 x.kind, .int .i64 x.pid, .int .i64 x.epoch, .int .i64 x.parts, .bool x.yes, .bool x.near, .slice ka kn kc]] w (AwakePost13 w) := by
  have hb1 : Below w.heap.size w (w.alloc (.cells #[.int .i64 x.kind, .int .i64 x.pid, .int .i64 x.epoch, .int .i64 x.parts, .bool x.yes, .bool x.near, .slice ka kn kc] 49)) := bel_alloc (Below.refl _ _) _
  have hk1 := Blk.new w #[.int .i64 x.kind, .int .i64 x.pid, .int .i64 x.epoch, .int .i64 x.parts, .bool x.yes, .bool x.near, .slice ka kn kc] 49
  have HB1 := hid hb1
  have HK1 := hid hk1
  have HI := hid (h.below hb1)
  clear h hb1 hk1
  go_enter Tryz.func6, Tryz.ntmps6
  go_wp2_with fail
  generalize w.alloc (.cells #[.int .i64 x.kind, .int .i64 x.pid, .int .i64 x.epoch, .int .i64 x.parts, .bool x.yes, .bool x.near, .slice ka kn kc] 49) = w0 at HB1 HK1 HI ⊢
  generalize hbx : w.heap.size = bx at HK1 ⊢
  refine (made13_any HI.out).mono ?_
  rintro e w1 ⟨c, ll, d, S, SL, SD, C, A, D, k, rfl, hm⟩
  have hbk := HK1.out.below' hm.made.bel
  have HM := hid hm
  have HBX := hid hbk
  have hl8 := hm.room.right.len
  clear hm hbk HI HK1
  go_wp2_with fail
  have hszw := HB1.out.size
  have hcp := copy_any HM.out.made.trio.disk HM.out.wf.sorted
  unfold ptr at hcp
  refine hcp.mono ?_
  rintro e w2 ⟨rfl, ⟨SE, hde, hse⟩, hb2⟩
  have HM2 := hid (HM.out.below hb2)
  have HBX2 := hid (HBX.out.below' hb2)
  have hlt : ∀ k, (S k ∨ SL k ∨ SD k) → k < w1.heap.size := fun k hk => HM.out.made.lt hk
  have hsz1 := HM.out.made.bel.size
  have hsz2 := hb2.size
  have HLT := hid hlt
  have HDE := hid hde
  have HSE := hid hse
  obtain ⟨hcalm, hopen⟩ := HM.out.room.good.calmly HM.out.own HM.out.room.room.1 []
  have HCALM := hid hcalm
  have HOPEN := hid hopen
  clear hcp hde hse hb2 hlt hcalm hopen HM HBX
  generalize w1.heap.size = n1 at HLT HDE HSE hsz1 hsz2 ⊢
  go_wp2_with fail
  refine (crash_any n1 SE D 1000 _ [] _ HDE.out HM2.out.wf ⟨rfl, none, 0, rfl, Nat.le_refl _, by decide, fun j u hu => by simp [keepCells] at hu⟩ (fun a m cap e => by cases e)).mono ?_
  rintro e w3 ⟨rfl, SE3, hd3, hf3, hs3⟩
  rw [HCALM.out] at hd3
  have hsz3 := hf3.size
  have hse3 : ∀ k, SE3 k → n1 ≤ k := fun k hk => by
    rcases hs3 k hk with h9 | h9
    · exact HSE.out k h9
    · omega
  have hone3 := HM2.out.made.fr13 hf3 (fun k hk => by have := HSE.out k hk; omega) (fun k hk h9 => by have h8 := HLT.out k hk; have h7 := HSE.out k h9; omega)
  have HBX3 := hid (HBX2.out.fr hf3 (fun h9 => HDE.out.other HBX2.out (by decide) (by decide) h9))
  have HONE3 := hid hone3
  have HROOM := hid HM2.out.room
  have HWF := hid HM2.out.wf
  have HOWN := hid HM2.out.own
  have HFEW := hid HM2.out.few
  have hn0 := HM2.out.now0
  have hn1 := HM2.out.now1
  have HD3 := hid hd3
  have HSE3 := hid hse3
  clear hd3 hf3 hs3 hse3 hone3 HM2 HBX2 HDE HSE HCALM
  go_wp2_with fail
  refine (coOpen_good (N := 1000) HD3.out HWF.out HOPEN.out HROOM.out.good).mono ?_
  rintro e w5 ⟨c5, l5, S5, SL5, SD5, rfl, ht5, hfr5, hs5, hsl5, hsd5⟩
  have hone5 := HONE3.out.fr13 hfr5 (fun k hk => by have := HSE3.out k hk; omega) (fun k hk h9 => by have h8 := HLT.out k hk; have h7 := HSE3.out k h9; omega)
  have hboth : Both w w5 c ll d S SL SD C A.toP D c5 l5 n1 S5 SL5 SD5 (PCo.new C.rows due10) A.toP D := by
    have hs0 := hone5.since HB1.out
    refine ⟨hs0, ⟨ht5, hs0.bel, fun k hk => ?_, fun k hk => ?_, fun k hk => ?_⟩, fun k hk h9 => ?_⟩
    · have := hs5 k hk; omega
    · have := hsl5 k hk; omega
    · rcases hsd5 k hk with h9 | h9
      · have := HSE3.out k h9; omega
      · omega
    · have h8 := HLT.out k hk
      rcases h9 with h9 | h9 | h9
      · have := hs5 k h9; omega
      · have := hsl5 k h9; omega
      · rcases hsd5 k h9 with h9 | h9
        · have := HSE3.out k h9; omega
        · omega
  have HBX5 := hid (HBX3.out.fr hfr5 (fun h9 => HD3.out.other HBX3.out (by decide) (by decide) h9))
  obtain ⟨C2, hC2⟩ : ∃ C2, PCo.new C.rows due10 = C2 := ⟨_, rfl⟩
  have hC2r : C2.rows = C.rows := by rw [← hC2]; rfl
  have hC2n : C2.now = 0 := by rw [← hC2]; rfl
  rw [hC2] at hboth
  have HB5 := hid hboth
  have HC2R := hid hC2r
  have HC2N := hid hC2n
  clear ht5 hfr5 hs5 hsl5 hsd5 hone5 hboth hC2 hC2r hC2n HONE3 HBX3 HD3 HSE3 HLT HOPEN hsz1 hsz2 hsz3
  go_wp2_with fail
  refine (coRows_any HB5.out.two.trio (by rw [HC2R.out]; exact HROOM.out.right)).mono ?_
  rintro e w6 ⟨v6, rfl, hrow6, hb6⟩
  rw [HC2R.out] at hrow6
  have HB6 := hid (HB5.out.below hb6)
  have HBX6 := hid (HBX5.out.below' hb6)
  have HR6 := hid hrow6
  obtain ⟨va, vc, rfl⟩ := row_slice hrow6
  clear hrow6 hb6 HB5 HBX5
  go_wp2_with fail
  refine (coRows_any HB6.out.one.trio HROOM.out.right).mono ?_
  rintro e w7 ⟨v7, rfl, hrow7, hb7⟩
  have HB7 := hid (HB6.out.below hb7)
  have HBX7 := hid (HBX6.out.below' hb7)
  have HR67 := hid (own_bel HR6.out hb7)
  have HR7 := hid hrow7
  obtain ⟨va7, vc7, rfl⟩ := row_slice hrow7
  clear hrow7 hb7 HB6 HBX6 HR6
  go_wp2_with fail
  refine (sameTr_eq (Reads.of_own HR67.out) (Reads.of_own HR7.out) (by omega)).mono ?_
  rintro e w8 ⟨rfl, n8, rfl⟩
  have HB8 := hid (HB7.out.below (bel_drewN _ _ n8))
  have HBX8 := hid (HBX7.out.below' (bel_drewN _ _ n8))
  clear HB7 HBX7 HR67 HR7
  generalize w7.drewN n8 = w8 at HB8 HBX8 ⊢
  have k0 := HBX8.out.cell (i := 0) (v := .int .i64 x.kind) rfl
  go_upto_region 9 with fail
  go_cut [47] (fun v wx => v = .bool (decide (x.kind < 0) || decide (7 < x.kind)) ∧ wx = w8)
  case first =>
    by_cases h1 : x.kind < 0
    · have h2 : decide (x.kind < 0) = true := decide_eq_true h1
      clear h1
      go_wp2_with fail
      go_meet
      exact ⟨by rw [h2]; rfl, rfl⟩
    · have h2 : decide (x.kind < 0) = false := decide_eq_false h1
      clear h1
      by_cases h3 : 7 < x.kind
      · have h4 : decide (7 < x.kind) = true := decide_eq_true h3
        clear h3
        go_wp2_with fail
        go_meet
        exact ⟨by rw [h2, h4]; rfl, rfl⟩
      · have h4 : decide (7 < x.kind) = false := decide_eq_false h3
        clear h3
        go_wp2_with fail
        go_meet
        exact ⟨by rw [h2, h4]; rfl, rfl⟩
  case rest =>
    obtain ⟨hv, hw⟩ := hcut
    subst hv
    subst hw
    have f0 := HBX8.out.free 0
    generalize (decide (x.kind < 0) || decide (7 < x.kind)) = b
    go_upto_if 47 with fail
    go_cut [48] (fun _ wx => RebMid w c ll d c5 l5 n1 C C2 A D bx (.slice ka kn kc) wx)
    case first =>
      cases b with
      | false =>
        go_wp2_with fail
        go_meet
        exact ⟨S, SL, SD, S5, SL5, SD5, x, HB8.out, HBX8.out⟩
      | true =>
        have m1 := HB8.out.one.trio.not HBX8.out (show 49 ∉ [66, 28] by decide) (by decide)
        have m2 := HB8.out.two.trio.not HBX8.out (show 49 ∉ [66, 28] by decide) (by decide)
        have M1 := hid m1
        have M2 := hid m2
        clear m1 m2
        go_wp2_with fail
        go_meet
        exact ⟨S, SL, SD, S5, SL5, SD5, { x with kind := 1 }, ⟨HB8.out.one.fr13 ((Fr.refl (fun k => k = bx) _).setCell (p := ⟨bx, 0, none⟩) (.inl rfl) _) (fun k hk => by omega) (fun k h1 h2 => M1.out (h2 ▸ h1)), HB8.out.two.fr13 ((Fr.refl (fun k => k = bx) _).setCell (p := ⟨bx, 0, none⟩) (.inl rfl) _) (fun k hk => by omega) (fun k h1 h2 => M2.out (h2 ▸ h1)), HB8.out.apart⟩, HBX8.out.set 0 (.int .i64 1)⟩
    case rest =>
      clear HB8 HBX8 k0 f0
      obtain ⟨S, SL, SD, S2, SL2, SD2, y, hb, hk⟩ := hcut
      have HB9 := hid hb
      have HBX9 := hid hk
      have k0 := hk.cell (i := 0) (v := .int .i64 y.kind) rfl
      have k1 := hk.cell (i := 1) (v := .int .i64 y.pid) rfl
      have k2 := hk.cell (i := 2) (v := .int .i64 y.epoch) rfl
      have k3 := hk.cell (i := 3) (v := .int .i64 y.parts) rfl
      have k4 := hk.cell (i := 4) (v := .bool y.yes) rfl
      have k5 := hk.cell (i := 5) (v := .bool y.near) rfl
      have k6 := hk.cell (i := 6) (v := .slice ka kn kc) rfl
      clear hb hk
      go_wp2_with fail
      refine (coDoes_any (N := 1000) y ka kn kc HB9.out.two.trio (by rw [HC2R.out]; exact HROOM.out.right) (fun _ => by rw [HC2R.out]; exact HROOM.out.good) (by rw [HC2N.out]; omega)).mono ?_
      rintro e w9 ⟨rfl, hto⟩
      rw [HC2R.out] at hto
      obtain ⟨T2, TL2, TD2, hb9⟩ := HB9.out.swap.call hto
      have hk9 := HB9.out.two.trio.blk hto HBX9.out (show 49 ∉ [66, 28] by decide) (by decide)
      have HB10 := hid hb9.swap
      clear hto hb9 HB9 HBX9 k0 k1 k2 k3 k4 k5 k6
      have k0 := hk9.cell (i := 0) (v := .int .i64 y.kind) rfl
      have k1 := hk9.cell (i := 1) (v := .int .i64 y.pid) rfl
      have k2 := hk9.cell (i := 2) (v := .int .i64 y.epoch) rfl
      have k3 := hk9.cell (i := 3) (v := .int .i64 y.parts) rfl
      have k4 := hk9.cell (i := 4) (v := .bool y.yes) rfl
      have k5 := hk9.cell (i := 5) (v := .bool y.near) rfl
      have k6 := hk9.cell (i := 6) (v := .slice ka kn kc) rfl
      clear hk9
      go_wp2_with fail
      refine (coDoes_any (N := 1000) y ka kn kc HB10.out.one.trio HROOM.out.right (fun _ => HROOM.out.good) ⟨hn0, by have := HFEW.out; omega⟩).mono ?_
      rintro e w10 ⟨rfl, hto⟩
      obtain ⟨T, TL, TD, hb10⟩ := HB10.out.call hto
      obtain ⟨s1, s2, s3⟩ := does_same HC2R.out A.toP D y (aimE y C.rows)
      obtain ⟨A6, hA6, hg6⟩ := HROOM.out.wrote (by have := HFEW.out; omega) (coDoes_or (x := y) (ep := aimE y C.rows))
      clear hto HB10 k0 k1 k2 k3 k4 k5 k6
      generalize C.does A.toP D y (aimE y C.rows) = r at hb10 s1 s2 s3 hA6 hg6
      generalize C2.does A.toP D y (aimE y C.rows) = r2 at hb10 s1 s2 s3
      obtain ⟨C6, L6, D6, n6, e6⟩ := r
      obtain ⟨C7, L7, D7, n7, e7⟩ := r2
      dsimp only at hb10 s1 s2 s3 hA6 hg6
      subst hA6 s2 s3
      have HB11 := hid hb10
      have HG6 := hid hg6
      have HS1 := hid s1
      have hl6 := hg6.right.len
      clear hb10 hg6 s1 HC2R HC2N HROOM
      go_wp2_with fail
      refine (coRows_any HB11.out.two.trio (by rw [HS1.out]; exact HG6.out.right)).mono ?_
      rintro e w11 ⟨v11, rfl, hrow11, hb11⟩
      rw [HS1.out] at hrow11
      have HB12 := hid (HB11.out.below hb11)
      have HR11 := hid hrow11
      obtain ⟨va11, vc11, rfl⟩ := row_slice hrow11
      clear hrow11 hb11 HB11
      go_wp2_with fail
      refine (coRows_any HB12.out.one.trio HG6.out.right).mono ?_
      rintro e w12 ⟨v12, rfl, hrow12, hb12⟩
      have HB13 := hid (HB12.out.below hb12)
      have HR112 := hid (own_bel HR11.out hb12)
      have HR12 := hid hrow12
      obtain ⟨va12, vc12, rfl⟩ := row_slice hrow12
      clear hrow12 hb12 HB12 HR11
      go_wp2_with fail
      refine (sameTr_eq (Reads.of_own HR112.out) (Reads.of_own HR12.out) (by omega)).mono ?_
      rintro e w13 ⟨rfl, n13, rfl⟩
      have HB14 := hid (HB13.out.below (bel_drewN _ _ n13))
      clear HB13 HR112 HR12
      generalize w12.drewN n13 = w13 at HB14 ⊢
      have hlen := HG6.out.good.wf.count
      go_wp2_with fail
      refine (files_any d _ _ 1000 _ HB14.out.one.trio.disk HG6.out.good.wf).mono ?_
      rintro e w14 ⟨v14, rfl, hrow14, hb14⟩
      have HB15 := hid (HB14.out.below hb14)
      have HR14 := hid hrow14
      obtain ⟨va14, vc14, rfl⟩ := row_slice hrow14
      clear hrow14 hb14 HB14
      go_wp2_with fail
      refine (files_any n1 _ _ 1000 _ HB15.out.two.trio.disk HG6.out.good.wf).mono ?_
      rintro e w15 ⟨v15, rfl, hrow15, hb15⟩
      have HB16 := hid (HB15.out.below hb15)
      have HR145 := hid (own_bel HR14.out hb15)
      have HR15 := hid hrow15
      obtain ⟨va15, vc15, rfl⟩ := row_slice hrow15
      clear hrow15 hb15 HB15 HR14
      go_wp2_with fail
      refine (sameFiles_eq (Reads.of_own HR145.out) (Reads.of_own HR15.out) (by omega)).mono ?_
      rintro e w16 ⟨rfl, n16, rfl⟩
      have HB17 := hid (HB16.out.below (bel_drewN _ _ n16))
      clear HB16 HR145 HR15
      generalize w15.drewN n16 = w16 at HB17 ⊢
      go_wp2_with fail
      refine (awake13_any _).mono ?_
      rintro e w17 ⟨rfl, hb17⟩
      have HB99 := hid (bel_next HB17.out.one.bel hb17)
      clear hb17
      go_wp2_with fail
      go_ret
      exact ⟨rfl, HB99.out⟩
end Go.Proofs.YtbnefpdjcbegpaaGreatDoor
