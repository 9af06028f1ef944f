/-
  PartOnce: the walk. No conditions but deeds, and a batch, that read.
-/
import Derived.Test.YtgjkjkeeblbjlaaGreatDoorJQM
import Derived.Test.YtgjkjkeeblbjlaaGreatDoorJPM
import Derived.Test.YtgjkjkeeblbjlaaGreatDoorHIM
import Derived.Test.YtgjkjkeeblbjlaaGreatDoorGKM
set_option maxRecDepth 100000
namespace Go.Proofs.YtgjkjkeeblbjlaaGreatDoor
open Go.RowKit

set_option maxHeartbeats 1000000 in
theorem refLen_any (b : PBat) (ad : Option Addr) (cap : Nat) (w : World) : Calls Tryz.prog 29 #[b.val (.slice ad b.l.length cap)] w fun e w' => e = .returned (.int .i64 b.len) ∧ Below w.heap.size w w' := by
  have HB := hid (bel_alloc (Below.refl w.heap.size w) (.cells #[.int .i64 b.kind, .int .i64 b.pid, .int .i64 b.epoch, .int .i64 b.seq, .slice ad b.l.length cap] 31))
  have HK := hid (Blk.new w #[.int .i64 b.kind, .int .i64 b.pid, .int .i64 b.epoch, .int .i64 b.seq, .slice ad b.l.length cap] 31)
  have hl : b.len = max 1 (b.l.length : Int) := rfl
  rw [hl]
  unfold PBat.val
  have k4 := HK.out.cell (i := 4) (v := .slice ad b.l.length cap) rfl
  by_cases h0 : b.l.length = 0
  · have h1 : ((b.l.length : Int) == 0) = true := by simpa using h0
    have h2 : decide ((b.l.length : Int) = 0) = true := by simpa using h0
    have h3 : max 1 (b.l.length : Int) = 1 := by omega
    rw [h3]
    clear hl h3 h0
    go_enter Tryz.func29, Tryz.ntmps29
    go_wp2_with fail
    go_ret
    exact ⟨rfl, HB.out⟩
  · have h1 : ((b.l.length : Int) == 0) = false := by simpa using h0
    have h2 : decide ((b.l.length : Int) = 0) = false := by simpa using h0
    have h3 : max 1 (b.l.length : Int) = (b.l.length : Int) := by omega
    rw [h3]
    clear hl h3 h0
    go_enter Tryz.func29, Tryz.ntmps29
    go_wp2_with fail
    go_ret
    exact ⟨rfl, HB.out⟩

theorem put_again {s : PPart} {A : ALog} {D' : PDisk} {A' : ALog} {b : PBat} (h0 : (lookP s.prods b).2.2 = 0) (h1 : (lookP s.prods b).2.1 = false) (hp : b.pid ≠ 0) (he : A'.e = 0) :
    (s.took b A.next).put A'.toP D' b = ⟨s.took b A.next, A'.toP, D', A.next, true, 0⟩ := by
  have hl := look_again (base := A.next) h0 h1 hp
  unfold PPart.put
  rw [if_neg (fun h9 => h9 he), took_prods, hl]
  dsimp only
  rw [if_pos (.inr rfl)]

set_option maxHeartbeats 16000000 in
theorem partOnce_any {w : World} {v B : Value} {l : List PDeed} (b : PBat) (crash : Bool) (h : InPDeeds w v l) (hB : InRecs w B b.l) (hTX : ∀ r ∈ b.l, r.text.length ≤ maxLen) : Calls Tryz.prog 8 #[v, b.val B, .bool crash] w (AwakePost8 w) := by
  obtain ⟨ba, bc, rfl, _, _⟩ := hB.form
  obtain ⟨bk, bp, be, bs', bl⟩ := b
  unfold PBat.val
  dsimp only at hB hTX ⊢
  have hb0 : Below w.heap.size w (w.alloc (.cells #[.int .i64 bk, .int .i64 bp, .int .i64 be, .int .i64 bs', .slice ba bl.length bc] 31)) := bel_alloc (Below.refl _ _) _
  have hk0 := Blk.new w #[.int .i64 bk, .int .i64 bp, .int .i64 be, .int .i64 bs', .slice ba bl.length bc] 31
  have HI := hid (h.below hb0)
  have HREC := hid (hB.below hb0)
  have HTX := hid hTX
  have HB0 := hid hb0
  have HK0 := hid hk0
  clear h hB hTX hb0 hk0
  go_enter Tryz.func8, Tryz.ntmps8
  go_wp2_with fail
  generalize w.alloc (.cells #[.int .i64 bk, .int .i64 bp, .int .i64 be, .int .i64 bs', .slice ba bl.length bc] 31) = w0 at HI HREC HB0 HK0 ⊢
  generalize hbx : w.heap.size = bx at HK0 ⊢
  refine (made08_any HI.out).mono ?_
  rintro e w1 ⟨p, ll, d, S, SL, SD, s, A, D, rv, rows, rfl, hm⟩
  have hk1 := HK0.out.below' hm.trio.bel
  have HM := hid hm
  have HK1 := hid hk1
  clear hm hk1 HI
  have z0 := HK1.out.cell (i := 0) (v := .int .i64 bk) rfl
  have z1 := HK1.out.cell (i := 1) (v := .int .i64 bp) rfl
  have z2 := HK1.out.cell (i := 2) (v := .int .i64 be) rfl
  have z3 := HK1.out.cell (i := 3) (v := .int .i64 bs') rfl
  have z4 := HK1.out.cell (i := 4) (v := .slice ba bl.length bc) rfl
  go_wp2_with fail
  refine (light_any ⟨bk, bp, be, bs', bl⟩ (.slice ba bl.length bc) _ (HREC.out.below HM.out.trio.bel) HTX.out).mono ?_
  rintro e w2 ⟨rfl, hb2⟩
  have HT2 := hid (HM.out.trio.below hb2)
  have HK2 := hid (HK1.out.below' hb2)
  clear hb2 z0 z1 z2 z3 z4
  obtain ⟨lt, hlt⟩ : ∃ lt, PBat.light ⟨bk, bp, be, bs', bl⟩ = lt := ⟨_, rfl⟩
  rw [hlt]
  have z0 := HK2.out.cell (i := 0) (v := .int .i64 bk) rfl
  have z1 := HK2.out.cell (i := 1) (v := .int .i64 bp) rfl
  have z2 := HK2.out.cell (i := 2) (v := .int .i64 be) rfl
  have z3 := HK2.out.cell (i := 3) (v := .int .i64 bs') rfl
  have z4 := HK2.out.cell (i := 4) (v := .slice ba bl.length bc) rfl
  have HAW : Hid (∀ W, Below w2.heap.size w2 W → Calls Tryz.prog 15 #[] W fun e w' => e = .returned (.bool true) ∧ Below w.heap.size w w') := hid (fun W hW => (awake08_any W).mono (fun e w' ⟨he, hb⟩ => ⟨he, bel_next HB0.out (bel_next HT2.out.bel (bel_next hW hb))⟩))
  cases lt with
  | false =>
    clear hlt
    go_wp2_with fail
    refine (HAW.out _ (Below.refl _ _)).mono ?_
    rintro e w8 ⟨rfl, hb8⟩
    have HB8 := hid hb8
    clear hb8
    go_wp2_with fail
    go_ret
    exact ⟨rfl, HB8.out⟩
  | true =>
    have hl70 := light_len hlt
    have HLT := hid hl70
    clear hlt hl70
    by_cases hp0 : bp = 0
    · subst hp0
      go_wp2_with fail
      refine (HAW.out _ (Below.refl _ _)).mono ?_
      rintro e w8 ⟨rfl, hb8⟩
      have HB8 := hid hb8
      clear hb8
      go_wp2_with fail
      go_ret
      exact ⟨rfl, HB8.out⟩
    · have p1 : decide (bp = 0) = false := decide_eq_false hp0
      have p2 : (bp == 0) = false := by simpa using hp0
      have HP0 := hid hp0
      clear hp0
      go_wp2_with fail
      refine (paPut_any (N := 1000) ⟨bk, bp, be, bs', bl⟩ (.slice ba bl.length bc) HT2.out.trio (paSmall_of HM.out.well.good) (fun _ => HM.out.well.good) (HREC.out.below HT2.out.bel) (fun r hr => by have := HLT.out.2 r hr; omega) (by have := HLT.out.1; dsimp only at this ⊢; omega)).mono ?_
      rintro e w3 ⟨rfl, hto⟩
      have hk3 := HT2.out.trio.blk hto HK2.out (paOther p ll).2.2.2.x (paOther p ll).2.2.2.y
      obtain ⟨S3, SL3, SD3, ht3⟩ := HT2.out.call hto
      have HK3 := hid hk3
      clear hk3 hto z0 z1 z2 z3 z4 HAW
      rcases HM.out.well.put ⟨bk, bp, be, bs', bl⟩ with ⟨A', D', e, hok, hkd, h0, h1, hw, hall, hnx⟩ | ⟨A', D', n, y, c, e, hcy, hw, hall, hnx⟩
      · rw [e] at ht3 ⊢
        dsimp only at ht3 ⊢
        obtain ⟨hcalm, hopen⟩ := hw.good.calmly hw.own hw.fuse []
        have hag := put_again (A := A) (D' := D') h0 h1 HP0.out hw.good.e
        have HAG := hid hag
        have hnx0 := next_small HM.out.well.good HM.out.len
        have HT3 := hid ht3
        have HW3 := hid hw
        have HNX := hid hnx
        have HCALM := hid hcalm
        have HOPEN := hid hopen
        clear ht3 hw hall hnx hok hkd h0 h1 e hcalm hopen hag
        generalize s.took ⟨bk, bp, be, bs', bl⟩ A.next = s' at HT3 HW3 HAG
        go_upto_if 52 with fail
        go_cut [7] (fun pv wx => ∃ (p2 l2 : Nat) (S SL SD : Nat → Prop), pv = .pointer (some ⟨p2, 0, none⟩) ∧ TrioIn (paThing p2 l2) w0 wx l2 d S SL SD s' A'.toP D' ∧ Blk wx bx #[.int .i64 bk, .int .i64 bp, .int .i64 be, .int .i64 bs', .slice ba bl.length bc] 31)
        case first =>
          cases crash with
          | false =>
            go_wp2_with fail
            go_meet
            exact ⟨p, ll, S3, SL3, SD3, rfl, HT3.out, HK3.out⟩
          | true =>
            go_wp2_with fail
            refine (crash_any d SD3 D' 1000 _ [] _ HT3.out.trio.disk HW3.out.good.wf ⟨rfl, none, 0, rfl, Nat.le_refl _, by decide, fun j u hu => by simp [keepCells] at hu⟩ (fun a m cap e => by cases e)).mono ?_
            rintro e w4 ⟨rfl, hto⟩
            rw [HCALM.out] at hto
            have hto2 := HT3.out.trio.disk_to hto
            have hk4 := HT3.out.trio.blk hto2 HK3.out (paOther p ll).2.2.2.x (paOther p ll).2.2.2.y
            obtain ⟨S4, SL4, SD4, ht4⟩ := HT3.out.call hto2
            have HT4 := hid ht4
            have HK4 := hid hk4
            clear hto hto2 hk4 ht4 HT3 HK3
            go_wp2_with fail
            refine (paOpen_good (N := 1000) HT4.out.trio.disk HW3.out.good.wf HOPEN.out HW3.out.good).mono ?_
            rintro e w5 ⟨p5, l5, S5, SL5, SD5, rfl, ht5, hf5, hs5, hsl5, hsd5⟩
            have hsz := HT4.out.bel.size
            have ht5i : TrioIn (paThing p5 l5) w0 w5 l5 d S5 SL5 SD5 s' A'.toP D' := by
              refine ⟨ht5, HT4.out.bel.trans (hf5.to_below hsz (fun k hk h9 => by have := HT4.out.sd k h9; omega)), fun k hk => ?_, fun k hk => ?_, fun k hk => ?_⟩
              · have := hs5 k hk; omega
              · have := hsl5 k hk; omega
              · rcases hsd5 k hk with h9 | h9
                · exact HT4.out.sd k h9
                · omega
            have hk5 := HK4.out.fr hf5 (fun h9 => HT4.out.trio.disk.other HK4.out (by decide) (by decide) h9)
            have HT5 := hid ht5i
            have HK5 := hid hk5
            clear ht5 hf5 hs5 hsl5 hsd5 ht5i hk5 HT4 HK4
            go_wp2_with fail
            go_meet
            exact ⟨p5, l5, S5, SL5, SD5, rfl, HT5.out, HK5.out⟩
        case rest =>
          clear HT3 HK3
          obtain ⟨p2, l2, S5, SL5, SD5, rfl, ht, hk⟩ := hcut
          have HT5 := hid ht
          have z0 := hk.cell (i := 0) (v := .int .i64 bk) rfl
          have z1 := hk.cell (i := 1) (v := .int .i64 bp) rfl
          have z2 := hk.cell (i := 2) (v := .int .i64 be) rfl
          have z3 := hk.cell (i := 3) (v := .int .i64 bs') rfl
          have z4 := hk.cell (i := 4) (v := .slice ba bl.length bc) rfl
          have HK5 := hid hk
          clear ht hk
          go_wp2_with fail
          refine (paEnd_any HT5.out.trio).mono ?_
          rintro e w' ⟨rfl, rfl⟩
          go_wp2_with fail
          refine (free_any d _ _ _ HT5.out.trio.disk).mono ?_
          rintro e w' ⟨rfl, rfl⟩
          go_wp2_with fail
          have hpt := paPut_any (N := 1000) ⟨bk, bp, be, bs', bl⟩ (.slice ba bl.length bc) HT5.out.trio (paSmall_of HW3.out.good) (fun _ => HW3.out.good) (HREC.out.below HT5.out.bel) (fun r hr => by have := HLT.out.2 r hr; omega) (by have := HLT.out.1; dsimp only at this ⊢; omega)
          rw [HAG.out] at hpt
          refine hpt.mono ?_
          rintro e w6 ⟨rfl, hto⟩
          have hk6 := HT5.out.trio.blk hto HK5.out (paOther p2 l2).2.2.2.x (paOther p2 l2).2.2.2.y
          obtain ⟨S6, SL6, SD6, ht6⟩ := HT5.out.call hto
          dsimp only at ht6 ⊢
          have HT6 := hid ht6
          have HK6 := hid hk6
          clear hpt hto ht6 hk6 HT5 HK5 z0 z1 z2 z3 z4
          have z0 := HK6.out.cell (i := 0) (v := .int .i64 bk) rfl
          have z1 := HK6.out.cell (i := 1) (v := .int .i64 bp) rfl
          have z2 := HK6.out.cell (i := 2) (v := .int .i64 be) rfl
          have z3 := HK6.out.cell (i := 3) (v := .int .i64 bs') rfl
          have z4 := HK6.out.cell (i := 4) (v := .slice ba bl.length bc) rfl
          go_wp2_with fail
          refine (paEnd_any HT6.out.trio).mono ?_
          rintro e w' ⟨rfl, rfl⟩
          go_wp2_with fail
          refine (refLen_any ⟨bk, bp, be, bs', bl⟩ ba bc _).mono ?_
          rintro e w7 ⟨rfl, hb7⟩
          have HT7 := hid (HT6.out.below hb7)
          have hlen : (PBat.mk bk bp be bs' bl).len = max 1 (bl.length : Int) := rfl
          have hl70 := HLT.out.1
          try dsimp only at hl70
          have hnn : A'.toP.next = wrap64 (A.next + (PBat.mk bk bp be bs' bl).len) := by
            have h9 : A'.toP.next = A.next + (PBat.mk bk bp be bs' bl).len := HNX.out
            rw [IntWalk.wrap64_in _ (by rw [hlen]; omega)]
            exact h9
          have n1 : decide (A'.toP.next = wrap64 (A.next + (PBat.mk bk bp be bs' bl).len)) = true := decide_eq_true hnn
          have n2 : (A'.toP.next == wrap64 (A.next + (PBat.mk bk bp be bs' bl).len)) = true := by simpa using hnn
          clear hb7 hlen hnn HT6
          go_wp2_with fail
          refine (free_any d _ _ _ HT7.out.trio.disk).mono ?_
          rintro e w' ⟨rfl, rfl⟩
          go_wp2_with fail
          refine (awake08_any _).mono ?_
          rintro e w8 ⟨rfl, hb8⟩
          have HB8 := hid (bel_next HB0.out (bel_next HT7.out.bel hb8))
          clear hb8
          go_wp2_with fail
          go_ret
          exact ⟨rfl, HB8.out⟩
      · rw [e] at ht3 ⊢
        dsimp only at ht3 ⊢
        have HT3 := hid ht3
        clear ht3 hw hall hnx e
        by_cases hc : c = 0
        · obtain rfl : y = true := hcy.resolve_left (fun h9 => h9 hc)
          subst hc
          clear hcy
          go_wp2_with fail
          refine (awake08_any _).mono ?_
          rintro e w8 ⟨rfl, hb8⟩
          have HB8 := hid (bel_next HB0.out (bel_next HT3.out.bel hb8))
          clear hb8
          go_wp2_with fail
          go_ret
          exact ⟨rfl, HB8.out⟩
        · have hc1 : (c != 0) = true := by simpa using hc
          have hc2 : decide (c = 0) = false := decide_eq_false hc
          have hc3 : (c == 0) = false := by simpa using hc
          clear hcy hc
          go_wp2_with fail
          refine (awake08_any _).mono ?_
          rintro e w8 ⟨rfl, hb8⟩
          have HB8 := hid (bel_next HB0.out (bel_next HT3.out.bel hb8))
          clear hb8
          go_wp2_with fail
          go_ret
          exact ⟨rfl, HB8.out⟩
end Go.Proofs.YtgjkjkeeblbjlaaGreatDoor
