/-
  PartMarks: the walk. No conditions but deeds that read.
-/
import Derived.Test.YtgjkjkeeblbjlaaGreatDoorJQM
import Derived.Test.YtgjkjkeeblbjlaaGreatDoorJPM
import Derived.Test.YtgjkjkeeblbjlaaGreatDoorHIM
set_option maxRecDepth 100000
namespace Go.Proofs.YtgjkjkeeblbjlaaGreatDoor
open Go.RowKit

set_option maxHeartbeats 16000000 in
theorem partMarks_any {w : World} {v : Value} {l : List PDeed} (pid ep : Int) (yes again : Bool) (h : InPDeeds w v l) : Calls Tryz.prog 5 #[v, .int .i64 pid, .int .i64 ep, .bool yes, .bool again] w (AwakePost8 w) := by
  have HI := hid h
  clear h
  go_enter Tryz.func5, Tryz.ntmps5
  go_wp2_with fail
  refine (made08_any HI.out).mono ?_
  rintro e w1 ⟨p, ll, d, S, SL, SD, s, A, D, rv, rows, rfl, hm⟩
  have HM := hid hm
  clear hm HI
  go_upto_region 5 with fail
  generalize wrap64 (1 + (wrap64 (pid.tmod 3 + 3)).tmod 3) = pd
  have hnx := next_small HM.out.well.good HM.out.len
  obtain ⟨⟨A1, D1, A2, D2, e1, h1, g1, f1, hcase, hn, g2, h2, l1, l2⟩⟩ := mark_twice HM.out.well.good HM.out.well.fuse (by omega) pd ep yes again
  have hl40 := HM.out.len
  generalize hr : s.mark A.toP D pd ep yes = r at h1 g1 hcase g2 h2
  have hL := congrArg PaRes.L h1
  have hD := congrArg PaRes.D h1
  have hE := congrArg PaRes.e h1
  dsimp only at hL hD hE
  obtain ⟨s1, L1, D1', n1, y1, e1'⟩ := r
  dsimp only at hL hD hE g1 hcase g2 h2
  subst hL hD hE
  have HR := hid hr
  have HG1 := hid g1
  have HG2 := hid g2
  have HCASE := hid hcase
  have HN := hid hn
  have H2 := hid h2
  have hA1 : A1.all.length ≤ 300 := by omega
  have hA2 : A2.all.length ≤ 300 := by omega
  clear hr g1 f1 hcase hn g2 h2 l1 l2 h1 hnx
  go_wp2_with fail
  have hmk := paMark_any (N := 1000) pd ep yes HM.out.trio.trio (paSmall_of HM.out.well.good) (fun _ => HM.out.well.good)
  rw [HR.out] at hmk
  refine hmk.mono ?_
  rintro e w2 ⟨rfl, hto⟩
  obtain ⟨S2, SL2, SD2, ht2⟩ := HM.out.trio.call hto
  dsimp only at ht2 ⊢
  have HT2 := hid ht2
  clear hmk hto ht2
  go_wp2_with fail
  refine (paEnd_any HT2.out.trio).mono ?_
  rintro e w' ⟨rfl, rfl⟩
  go_wp2_with fail
  refine (free_any d _ _ _ HT2.out.trio.disk).mono ?_
  rintro e w' ⟨rfl, rfl⟩
  go_wp2_with fail
  refine (every08_any 9 true HT2.out.trio HG1.out (by decide) hA1).mono ?_
  rintro e w3 ⟨v3, rfl, hrow3, hb3⟩
  have HT3 := hid (HT2.out.below hb3)
  have HR3 := hid (own_base hrow3 (Nat.zero_le _))
  obtain ⟨va3, vc3, rfl⟩ := row_slice hrow3
  have hla : (s1.toldAll true A1).length ≤ 1000000 := by
    have h8 := flatMap_len8 (told_len s1 true) (s1.vis true A1)
    have h9 := vis_len HG1.out true
    unfold PPart.toldAll
    omega
  clear hrow3 hb3 HT2
  go_wp2_with fail
  have hmk := paMark_any (N := 1000) pd ep again HT3.out.trio (paSmall_of HG1.out) (fun _ => HG1.out)
  rw [H2.out] at hmk
  refine hmk.mono ?_
  rintro e w4 ⟨rfl, hto⟩
  have hr4 := HT3.out.trio.typed hto HR3.out (paOther p ll).2.2.1.x (paOther p ll).2.2.1.y
  obtain ⟨S4, SL4, SD4, ht4⟩ := HT3.out.call hto
  dsimp only at ht4 ⊢
  have HT4 := hid ht4
  have HR4 := hid hr4
  clear hmk hto ht4 hr4 HT3 HR3
  go_wp2_with fail
  refine (every08_any 9 true HT4.out.trio HG2.out (by decide) hA2).mono ?_
  rintro e w5 ⟨v5, rfl, hrow5, hb5⟩
  have HT5 := hid (HT4.out.below hb5)
  have HRA := hid (own_bel HR4.out hb5)
  have HRB := hid (own_base hrow5 (Nat.zero_le _))
  obtain ⟨va5, vc5, rfl⟩ := row_slice hrow5
  clear hrow5 hb5 HT4 HR4
  rcases HCASE.out with ⟨he0, hop, ha, hd⟩ | hne
  · subst he0
    have HOP := hid hop
    subst ha hd
    clear hop
    go_wp2_with fail
    refine (paOpens_any HT5.out.trio.obj (by have := (paSmall_of HG1.out).ol; omega)).mono ?_
    rintro e w6 ⟨v6, rfl, hrow6, hb6⟩
    have hol := (paSmall_of HG1.out).ol
    have HT6 := hid (HT5.out.below hb6)
    have HRA6 := hid (own_bel HRA.out hb6)
    have HRB6 := hid (own_bel HRB.out hb6)
    have HO6 := hid hrow6
    obtain ⟨va6, vc6, rfl⟩ := row_slice hrow6
    clear hrow6 hb6 HT5 HRA HRB
    go_wp2_with fail
    go_loopw [24] (fun j wr => ∃ k : Nat, k ≤ s1.opens.length ∧ j = .int .i64 k ∧ wr = w6) (fun j _ => s1.opens.length - (intOf j).toNat)
    case atStart => exact ⟨0, Nat.zero_le _, rfl, rfl⟩
    case round =>
      obtain ⟨k, hk, rfl, rfl⟩ := hrel
      by_cases hlt : k < s1.opens.length
      · obtain ⟨x, hx⟩ : ∃ x, s1.opens[k]? = some x := ⟨_, List.getElem?_eq_getElem hlt⟩
        have hxp := HOP.out x (List.mem_of_getElem? hx)
        obtain ⟨e0, _⟩ := opCells_at _ k x hx
        obtain ⟨g, rfl⟩ : ∃ g, va6 = some ⟨g, 0, none⟩ := by
          rcases Joins.ownsRow_forms HO6.out with ⟨_, hz⟩ | ⟨g, cap, h9⟩
          · omega
          · injection h9 with h9; exact ⟨g, h9⟩
        have c0 : wr.cell? ⟨g, k * 2, none⟩ = some (.int .i64 x.pid) := (HO6.out.cellAt (k * 2) (by omega)).trans e0
        have hk0 : (0 : Int) ≤ (k : Int) := by omega
        have hk1 : (k : Int) < (s1.opens.length : Int) := by omega
        have q1 : decide (x.pid = pd) = false := decide_eq_false hxp
        have q2 : (x.pid == pd) = false := by simpa using hxp
        clear hx e0 hxp
        go_wp2_with fail
        go_roundw
        case rel => exact ⟨k + 1, by omega, by go_num, trivial⟩
        case measure => simp [intOf]; omega
      · obtain rfl : k = s1.opens.length := by omega
        go_wp2_with fail
        refine (sameGot_eq HRA6.out HRB6.out hla).mono ?_
        rintro e w7 ⟨rfl, n7, rfl⟩
        have HT7 := hid (HT6.out.below (bel_drewN _ _ n7))
        go_wp2_with fail
        refine (paEnd_any HT7.out.trio).mono ?_
        rintro e w' ⟨rfl, rfl⟩
        go_wp2_with fail
        refine (free_any d _ _ _ HT7.out.trio.disk).mono ?_
        rintro e w' ⟨rfl, rfl⟩
        go_wp2_with fail
        refine (awake08_any _).mono ?_
        rintro e w8 ⟨rfl, hb8⟩
        have HB8 := hid (bel_next HT7.out.bel hb8)
        clear hb8
        go_wp2_with fail
        go_ret
        exact ⟨rfl, HB8.out⟩
  · have q1 : (e1' != 0) = true := by simpa using hne
    have q2 : decide (e1' = 0) = false := decide_eq_false hne
    have q3 : (e1' == 0) = false := by simpa using hne
    have hnn : A2.toP.next = A1.toP.next := HN.out
    clear hne
    go_wp2_with fail
    refine (paEnd_any HT5.out.trio).mono ?_
    rintro e w' ⟨rfl, rfl⟩
    rw [hnn]
    go_wp2_with fail
    refine (awake08_any _).mono ?_
    rintro e w8 ⟨rfl, hb8⟩
    have HB8 := hid (bel_next HT5.out.bel hb8)
    clear hb8
    go_wp2_with fail
    go_ret
    exact ⟨rfl, HB8.out⟩
end Go.Proofs.YtgjkjkeeblbjlaaGreatDoor
