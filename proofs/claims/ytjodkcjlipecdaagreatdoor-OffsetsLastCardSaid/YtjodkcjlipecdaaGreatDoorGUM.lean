/-
  offsets: Done, Fetch, Committed, Pends, Gen, and of none: the walks. Conditions: numbers that fit.
  offsets: Open, on a log whose notes fit: the walk. Conditions: numbers that fit.
-/
import Derived.Test.YtjodkcjlipecdaaGreatDoorGTM
import Derived.Test.YtjodkcjlipecdaaGreatDoorGLM
import Derived.Test.YtjodkcjlipecdaaGreatDoorGGM
import Derived.Laws.Cover3
set_option maxRecDepth 100000
namespace Go.Proofs.YtjodkcjlipecdaaGreatDoor
open Go.RowKit

set_option maxHeartbeats 4000000 in
theorem done_any {w : World} {o l d : Nat} {S SL SD : Nat → Prop} {O : POff} {A : ALog} {D : PDisk} {N : Int} (pid epoch : Int) (yes : Bool) (h : Offs w o l d S SL SD O A.toP D) (hok : O.Ok) (hlen : O.com.length ≤ 4) (hi : A.e = 0 → Inv A D ∧ D.WF N) :
    Calls Tryz.prog 33 #[.pointer (some ⟨o, 0, none⟩), .int .i64 pid, .int .i64 epoch, .bool yes] w (WritePost w o l d S SL SD (O.done A.toP D pid epoch yes)) := by
  have HO := hid h
  have HOK := hid hok
  have HI := hid hi
  have hpl := hok.few
  obtain ⟨cv, pv, hrep, _⟩ := h.off
  obtain ⟨c0, _, _, _, c4⟩ := hrep.cells
  have ho := hrep.hdr.lt
  have hne : o ≠ w.heap.size := by omega
  have hne2 : o ≠ w.heap.size + 1 := by omega
  have HREP := hid hrep
  unfold ptr at c0
  clear h hok hi hrep
  obtain ⟨rr, HR⟩ : ∃ rr, Hid (O.done A.toP D pid epoch yes = rr) := ⟨_, rfl⟩
  rw [HR.out]
  have HB0 : Hid (Below w.heap.size w ((w.alloc (.cells #[.int .i64 pid] 3)).alloc (.cells #[.int .i64 epoch] 3))) := hid (bel_alloc (bel_alloc (Below.refl _ _) _) _)
  have HBX : Hid (Blk ((w.alloc (.cells #[.int .i64 pid] 3)).alloc (.cells #[.int .i64 epoch] 3)) w.heap.size #[.int .i64 pid] 3) := hid ((Blk.new _ _ _).alloc _)
  have HBE : Hid (Blk ((w.alloc (.cells #[.int .i64 pid] 3)).alloc (.cells #[.int .i64 epoch] 3)) (w.heap.size + 1) #[.int .i64 epoch] 3) := hid (by
    have h9 := Blk.new (w.alloc (.cells #[.int .i64 pid] 3)) #[.int .i64 epoch] 3
    simpa using h9)
  have eg1 : ∀ args w, (callFunc 92 args).run Tryz.prog w = .ok (.enter 92 args) w := enters_of Tryz.func92 (by kernel_rfl) rfl
  have eg2 : ∀ args w, (callFunc 94 args).run Tryz.prog w = .ok (.enter 94 args) w := enters_of Tryz.func94 (by kernel_rfl) rfl
  by_cases hp : isProd pid epoch
  · have hd1 := decide_eq_true hp
    by_cases he : A.e = 0
    · have he2 : A.toP.e = 0 := he
      obtain ⟨hi1, hi2⟩ := HI.out he
      have HI1 := hid hi1
      have HI2 := hid hi2
      clear hi1 hi2
      have hdef : rr = if ∃ x ∈ O.ofPid pid, epoch < x.epoch then (O, A.toP, D, 8) else if O.ofPid pid = [] then (O, A.toP, D, 0) else O.write A.toP D ⟨3, pid, epoch, if yes then 1 else 0, 0⟩ := by
        rw [← HR.out]; unfold POff.done; rw [if_neg (fun h9 => h9 hp), if_neg (fun h9 => h9 he2)]
      obtain ⟨q, hq⟩ : ∃ q, O.ofPid pid = q := ⟨_, rfl⟩
      obtain ⟨m, hm⟩ : ∃ m, q.length = m := ⟨_, rfl⟩
      have hm4 : m ≤ 4 := by
        rw [← hm, ← hq]
        exact Nat.le_trans (List.length_filter_le _ _) (by omega)
      have HOF : Hid (∀ W, Below w.heap.size w W → Blk W w.heap.size #[.int .i64 pid] 3 → Calls Tryz.prog 88 #[.pointer (some ⟨o, 0, none⟩), .func (.func 92) #[] #[.pointer (some ⟨w.heap.size, 0, none⟩)]] W
          fun e w' => ∃ v', e = .returned v' ∧ w'.ownsRow W.heap.size 78 4 v' q.length (pendCells q) ∧ Below W.heap.size W w') := hid (fun W hW hB => by
        have h9 := of_any (o := o) (l := O.pend) (base := 0) ((hW.cell (p := ⟨o, 4, none⟩) ho).trans c4) (own_bel HREP.out.pend hW) (by omega) eg1 (done1_any hB (fun h => h))
        have e9 : (O.pend.filter fun x => x.pid == pid) = q := hq
        rw [e9] at h9
        exact h9)
      rw [hq] at hdef
      have HM := hid hm
      clear HR hq
      by_cases hex : ∃ x ∈ q, epoch < x.epoch
      · have hany : q.any (fun x => decide (epoch < x.epoch)) = true := by
          obtain ⟨x, hx, hlt⟩ := hex
          exact List.any_eq_true.2 ⟨x, hx, decide_eq_true hlt⟩
        rw [if_pos hex] at hdef
        have HF := hid hdef
        have HA := hid hany
        clear hdef hex hp hm hany
        go_enter Tryz.func33, Tryz.ntmps33
        go_wp2_with fail
        refine (producer_is pid epoch true _ hd1).mono ?_
        rintro e w2 ⟨rfl, rfl⟩
        go_wp2_with fail
        refine (broken_is (HO.out.below HB0.out) 0 he2).mono ?_
        rintro e w3 ⟨rfl, rfl⟩
        go_wp2_with fail
        refine (HOF.out _ HB0.out HBX.out).mono ?_
        rintro e w5 ⟨v5, rfl, hrow5, hb5⟩
        have HB5 : Hid (Below w.heap.size w w5) := hid (bel_next HB0.out hb5)
        have HX5 : Hid (Blk w5 w.heap.size #[.int .i64 pid] 3) := hid (HBX.out.below' hb5)
        have HE5 : Hid (Blk w5 (w.heap.size + 1) #[.int .i64 epoch] 3) := hid (HBE.out.below' hb5)
        have HCT := hid (containsPend_any hrow5 (by rw [HM.out]; omega) eg2 (done2_any (w0 := w5) HE5.out (fun h => h)))
        rw [HA.out] at HCT
        rw [HM.out] at hrow5
        obtain ⟨ad5, cap5, rfl⟩ := row_slice hrow5
        clear hrow5 hb5
        go_wp2_with fail
        refine HCT.out.mono ?_
        rintro e w6 ⟨rfl, hb6⟩
        have HB6 : Hid (Below w.heap.size w w6) := hid (bel_next HB5.out hb6)
        have y0 : w6.cell? ⟨w.heap.size, 0, none⟩ = some (.int .i64 pid) := (HX5.out.below' hb6).cell rfl
        have y1 : w6.cell? ⟨w.heap.size + 1, 0, none⟩ = some (.int .i64 epoch) := (HE5.out.below' hb6).cell rfl
        have hs6 : w.heap.size + 1 < w6.heap.size := (HE5.out.below' hb6).lt
        have hn1 : w.heap.size ≠ w6.heap.size := by omega
        have hn2 : w.heap.size + 1 ≠ w6.heap.size := by omega
        clear hb6 HCT
        go_wp2_with fail
        go_ret
        exact WritePost.same HO.out HB6.out HF.out
      · have hany : q.any (fun x => decide (epoch < x.epoch)) = false := by
          rw [List.any_eq_false]
          intro x hx h9
          exact hex ⟨x, hx, of_decide_eq_true h9⟩
        rw [if_neg hex] at hdef
        have HA := hid hany
        by_cases hz : m = 0
        · have hqn : q = [] := List.length_eq_zero_iff.1 (hm.trans hz)
          rw [if_pos hqn] at hdef
          subst hz
          have HF := hid hdef
          clear hdef hex hp hm hany hqn
          go_enter Tryz.func33, Tryz.ntmps33
          go_wp2_with fail
          refine (producer_is pid epoch true _ hd1).mono ?_
          rintro e w2 ⟨rfl, rfl⟩
          go_wp2_with fail
          refine (broken_is (HO.out.below HB0.out) 0 he2).mono ?_
          rintro e w3 ⟨rfl, rfl⟩
          go_wp2_with fail
          refine (HOF.out _ HB0.out HBX.out).mono ?_
          rintro e w5 ⟨v5, rfl, hrow5, hb5⟩
          have HB5 : Hid (Below w.heap.size w w5) := hid (bel_next HB0.out hb5)
          have HX5 : Hid (Blk w5 w.heap.size #[.int .i64 pid] 3) := hid (HBX.out.below' hb5)
          have HE5 : Hid (Blk w5 (w.heap.size + 1) #[.int .i64 epoch] 3) := hid (HBE.out.below' hb5)
          have HCT := hid (containsPend_any hrow5 (by rw [HM.out]; omega) eg2 (done2_any (w0 := w5) HE5.out (fun h => h)))
          rw [HA.out] at HCT
          rw [HM.out] at hrow5
          obtain ⟨ad5, cap5, rfl⟩ := row_slice hrow5
          clear hrow5 hb5
          go_wp2_with fail
          refine HCT.out.mono ?_
          rintro e w6 ⟨rfl, hb6⟩
          have HB6 : Hid (Below w.heap.size w w6) := hid (bel_next HB5.out hb6)
          have y0 : w6.cell? ⟨w.heap.size, 0, none⟩ = some (.int .i64 pid) := (HX5.out.below' hb6).cell rfl
          have y1 : w6.cell? ⟨w.heap.size + 1, 0, none⟩ = some (.int .i64 epoch) := (HE5.out.below' hb6).cell rfl
          have hs6 : w.heap.size + 1 < w6.heap.size := (HE5.out.below' hb6).lt
          have hn1 : w.heap.size ≠ w6.heap.size := by omega
          have hn2 : w.heap.size + 1 ≠ w6.heap.size := by omega
          clear hb6 HCT
          go_wp2_with fail
          go_ret
          exact WritePost.same HO.out HB6.out HF.out
        · rw [if_neg (fun h9 => hz (by rw [← hm, h9]; rfl))] at hdef
          have b1 : ((m : Int) == 0) = false := beq_eq_false_iff_ne.2 (by omega)
          have b2 : decide ((m : Int) = 0) = false := decide_eq_false (by omega)
          have b3 : decide (m = 0) = false := decide_eq_false hz
          have HP := hid hp
          have HF := hid hdef
          clear hdef hex hp hm hany hz
          cases yes with
          | true =>
            go_enter Tryz.func33, Tryz.ntmps33
            go_wp2_with fail
            refine (producer_is pid epoch true _ hd1).mono ?_
            rintro e w2 ⟨rfl, rfl⟩
            go_wp2_with fail
            refine (broken_is (HO.out.below HB0.out) 0 he2).mono ?_
            rintro e w3 ⟨rfl, rfl⟩
            go_wp2_with fail
            refine (HOF.out _ HB0.out HBX.out).mono ?_
            rintro e w5 ⟨v5, rfl, hrow5, hb5⟩
            have HB5 : Hid (Below w.heap.size w w5) := hid (bel_next HB0.out hb5)
            have HX5 : Hid (Blk w5 w.heap.size #[.int .i64 pid] 3) := hid (HBX.out.below' hb5)
            have HE5 : Hid (Blk w5 (w.heap.size + 1) #[.int .i64 epoch] 3) := hid (HBE.out.below' hb5)
            have HCT := hid (containsPend_any hrow5 (by rw [HM.out]; omega) eg2 (done2_any (w0 := w5) HE5.out (fun h => h)))
            rw [HA.out] at HCT
            rw [HM.out] at hrow5
            obtain ⟨ad5, cap5, rfl⟩ := row_slice hrow5
            clear hrow5 hb5
            go_wp2_with fail
            refine HCT.out.mono ?_
            rintro e w6 ⟨rfl, hb6⟩
            have HB6 : Hid (Below w.heap.size w w6) := hid (bel_next HB5.out hb6)
            have y0 : w6.cell? ⟨w.heap.size, 0, none⟩ = some (.int .i64 pid) := (HX5.out.below' hb6).cell rfl
            have y1 : w6.cell? ⟨w.heap.size + 1, 0, none⟩ = some (.int .i64 epoch) := (HE5.out.below' hb6).cell rfl
            have hs6 : w.heap.size + 1 < w6.heap.size := (HE5.out.below' hb6).lt
            have hn1 : w.heap.size ≠ w6.heap.size := by omega
            have hn2 : w.heap.size + 1 ≠ w6.heap.size := by omega
            clear hb6 HCT
            go_wp2_with fail
            refine (write_any (b := w6.heap.size) (cap := 4) (xs := [3, pid, epoch, 1]) (n := ⟨3, pid, epoch, 1, 0⟩) (HO.out.below (bel_alloc HB6.out _)) HOK.out hlen HI1.out HI2.out he (.inr (.inl ⟨rfl, rfl⟩)) (by
              intro x hx
              have h8 := HP.out
              unfold isProd at h8
              simp only [PNote.nums, List.mem_cons, List.not_mem_nil, or_false] at hx
              rcases hx with rfl | rfl | rfl | rfl | rfl <;> omega) (by simp) (by
              intro j x hj
              match j, hj with
              | 0, hj => simp at hj; subst hj; exact (Blk.new w6 #[_, _, _, _] _).cell rfl
              | 1, hj => simp at hj; subst hj; exact (Blk.new w6 #[_, _, _, _] _).cell rfl
              | 2, hj => simp at hj; subst hj; exact (Blk.new w6 #[_, _, _, _] _).cell rfl
              | 3, hj => simp at hj; subst hj; exact (Blk.new w6 #[_, _, _, _] _).cell rfl
              | j + 4, hj => simp at hj)).mono ?_
            rintro e w7 hp
            have HP6 := hid (hp.after (bel_alloc HB6.out _))
            obtain ⟨rfl, _⟩ := hp
            go_wp2_with fail
            go_ret
            rw [HF.out]
            exact HP6.out
          | false =>
            go_enter Tryz.func33, Tryz.ntmps33
            go_wp2_with fail
            refine (producer_is pid epoch true _ hd1).mono ?_
            rintro e w2 ⟨rfl, rfl⟩
            go_wp2_with fail
            refine (broken_is (HO.out.below HB0.out) 0 he2).mono ?_
            rintro e w3 ⟨rfl, rfl⟩
            go_wp2_with fail
            refine (HOF.out _ HB0.out HBX.out).mono ?_
            rintro e w5 ⟨v5, rfl, hrow5, hb5⟩
            have HB5 : Hid (Below w.heap.size w w5) := hid (bel_next HB0.out hb5)
            have HX5 : Hid (Blk w5 w.heap.size #[.int .i64 pid] 3) := hid (HBX.out.below' hb5)
            have HE5 : Hid (Blk w5 (w.heap.size + 1) #[.int .i64 epoch] 3) := hid (HBE.out.below' hb5)
            have HCT := hid (containsPend_any hrow5 (by rw [HM.out]; omega) eg2 (done2_any (w0 := w5) HE5.out (fun h => h)))
            rw [HA.out] at HCT
            rw [HM.out] at hrow5
            obtain ⟨ad5, cap5, rfl⟩ := row_slice hrow5
            clear hrow5 hb5
            go_wp2_with fail
            refine HCT.out.mono ?_
            rintro e w6 ⟨rfl, hb6⟩
            have HB6 : Hid (Below w.heap.size w w6) := hid (bel_next HB5.out hb6)
            have y0 : w6.cell? ⟨w.heap.size, 0, none⟩ = some (.int .i64 pid) := (HX5.out.below' hb6).cell rfl
            have y1 : w6.cell? ⟨w.heap.size + 1, 0, none⟩ = some (.int .i64 epoch) := (HE5.out.below' hb6).cell rfl
            have hs6 : w.heap.size + 1 < w6.heap.size := (HE5.out.below' hb6).lt
            have hn1 : w.heap.size ≠ w6.heap.size := by omega
            have hn2 : w.heap.size + 1 ≠ w6.heap.size := by omega
            clear hb6 HCT
            go_wp2_with fail
            refine (write_any (b := w6.heap.size) (cap := 4) (xs := [3, pid, epoch, 0]) (n := ⟨3, pid, epoch, 0, 0⟩) (HO.out.below (bel_alloc HB6.out _)) HOK.out hlen HI1.out HI2.out he (.inr (.inl ⟨rfl, rfl⟩)) (by
              intro x hx
              have h8 := HP.out
              unfold isProd at h8
              simp only [PNote.nums, List.mem_cons, List.not_mem_nil, or_false] at hx
              rcases hx with rfl | rfl | rfl | rfl | rfl <;> omega) (by simp) (by
              intro j x hj
              match j, hj with
              | 0, hj => simp at hj; subst hj; exact (Blk.new w6 #[_, _, _, _] _).cell rfl
              | 1, hj => simp at hj; subst hj; exact (Blk.new w6 #[_, _, _, _] _).cell rfl
              | 2, hj => simp at hj; subst hj; exact (Blk.new w6 #[_, _, _, _] _).cell rfl
              | 3, hj => simp at hj; subst hj; exact (Blk.new w6 #[_, _, _, _] _).cell rfl
              | j + 4, hj => simp at hj)).mono ?_
            rintro e w7 hp
            have HP6 := hid (hp.after (bel_alloc HB6.out _))
            obtain ⟨rfl, _⟩ := hp
            go_wp2_with fail
            go_ret
            rw [HF.out]
            exact HP6.out
    · have he2 : ¬ A.toP.e = 0 := he
      obtain ⟨c, hc⟩ : ∃ c, A.toP.e = c := ⟨_, rfl⟩
      have HF : Hid (rr = (O, A.toP, D, c)) := hid (by rw [← HR.out, ← hc]; unfold POff.done; rw [if_neg (fun h9 => h9 hp), if_pos he2])
      have HC := hid hc
      rw [hc] at he2
      have z1 : (c != 0) = true := by simpa using he2
      have z2 : decide (c = 0) = false := decide_eq_false he2
      clear HR he hc he2 hp
      go_enter Tryz.func33, Tryz.ntmps33
      go_wp2_with fail
      refine (producer_is pid epoch true _ hd1).mono ?_
      rintro e w2 ⟨rfl, rfl⟩
      go_wp2_with fail
      refine (broken_is (HO.out.below HB0.out) c HC.out).mono ?_
      rintro e w3 ⟨rfl, rfl⟩
      go_wp2_with fail
      go_ret
      exact WritePost.same HO.out HB0.out HF.out
  · have hd1 := decide_eq_false hp
    have HF : Hid (rr = (O, A.toP, D, 1)) := hid (by rw [← HR.out]; unfold POff.done; rw [if_pos hp])
    clear HR hp
    go_enter Tryz.func33, Tryz.ntmps33
    go_wp2_with fail
    refine (producer_is pid epoch false _ hd1).mono ?_
    rintro e w2 ⟨rfl, rfl⟩
    go_wp2_with fail
    go_ret
    exact WritePost.same HO.out HB0.out HF.out

set_option maxHeartbeats 4000000 in
theorem offFetch_any {w : World} {o l d : Nat} {S SL SD : Nat → Prop} {O : POff} {L : PLog} {D : PDisk} (part : Int) (h : Offs w o l d S SL SD O L D) (hok : O.Ok) (hlen : O.com.length ≤ 4) :
    Calls Tryz.prog 32 #[.pointer (some ⟨o, 0, none⟩), .int .i64 part] w fun e w' => e = .returned (.tuple #[.int .i64 (O.fetch L part).1, .int .i64 (O.fetch L part).2]) ∧ Below w.heap.size w w' := by
  have HO := hid h
  have hpl := hok.few
  obtain ⟨cv, pv, hrep, _⟩ := h.off
  obtain ⟨ad, cap, rfl⟩ := row_slice hrep.com
  obtain ⟨c0, _, _, c3, c4⟩ := hrep.cells
  have ho := hrep.hdr.lt
  have hne : o ≠ w.heap.size := by omega
  have HREP := hid hrep
  unfold ptr at c0
  clear h hok hrep
  obtain ⟨rr, HR⟩ : ∃ rr, Hid (O.fetch L part = rr) := ⟨_, rfl⟩
  rw [HR.out]
  have HB0 : Hid (Below w.heap.size w (w.alloc (.cells #[.int .i64 part] 3))) := hid (bel_alloc (Below.refl _ _) _)
  have HBX : Hid (Blk (w.alloc (.cells #[.int .i64 part] 3)) w.heap.size #[.int .i64 part] 3) := hid (Blk.new _ _ _)
  have eg1 : ∀ args w, (callFunc 91 args).run Tryz.prog w = .ok (.enter 91 args) w := enters_of Tryz.func91 (by kernel_rfl) rfl
  by_cases hpt : O.isPart part
  · obtain ⟨k, rfl⟩ : ∃ k : Nat, part = k := ⟨part.toNat, by have := hpt.1; omega⟩
    have hd2 : decide ((0 : Int) ≤ (k : Int) ∧ (k : Int) < (O.com.length : Int)) = true := decide_eq_true hpt
    have hk1 : (k : Int) < (O.com.length : Int) := hpt.2
    have hk0 : (0 : Int) ≤ (k : Int) := hpt.1
    have hkn : k < O.com.length := by omega
    obtain ⟨g, cap2, e, hg, hgk⟩ := HREP.out.comAt hkn
    injection e with e _ _
    subst e
    have hgne : g ≠ w.heap.size := by omega
    by_cases he2 : L.e = 0
    · have hdef : rr = if O.ofPart k ≠ [] then (0, 10) else (O.at k, 0) := by rw [← HR.out]; unfold POff.fetch; rw [if_neg (fun h9 => h9 hpt), if_neg (fun h9 => h9 he2)]
      obtain ⟨q, hq⟩ : ∃ q, O.ofPart k = q := ⟨_, rfl⟩
      obtain ⟨m, hm⟩ : ∃ m, q.length = m := ⟨_, rfl⟩
      have HOF : Hid (∀ W, Below w.heap.size w W → Blk W w.heap.size #[.int .i64 k] 3 → Calls Tryz.prog 88 #[.pointer (some ⟨o, 0, none⟩), .func (.func 91) #[] #[.pointer (some ⟨w.heap.size, 0, none⟩)]] W
          fun e w' => ∃ v', e = .returned v' ∧ w'.ownsRow W.heap.size 78 4 v' m (pendCells q) ∧ Below W.heap.size W w') := hid (fun W hW hB => by
        have h9 := of_any (o := o) (l := O.pend) (base := 0) ((hW.cell (p := ⟨o, 4, none⟩) ho).trans c4) (own_bel HREP.out.pend hW) (by omega) eg1 (fetch1_any hB (fun h => h))
        have e9 : (O.pend.filter fun x => x.part == (k : Int)) = q := hq
        rw [e9, hm] at h9
        exact h9)
      rw [hq] at hdef
      clear HR hq
      by_cases hz : m = 0
      · have hqn : q = [] := List.length_eq_zero_iff.1 (hm.trans hz)
        rw [if_neg (fun h9 => h9 hqn)] at hdef
        subst hz
        have HF := hid hdef
        clear hdef hpt hm hqn
        go_enter Tryz.func32, Tryz.ntmps32
        go_wp2_with fail
        refine (part_is (ad := some ⟨g, 0, none⟩) (cap := cap) (n := O.com.length) k true (by go_simp) hd2).mono ?_
        rintro e w2 ⟨rfl, rfl⟩
        go_wp2_with fail
        refine (broken_is (HO.out.below HB0.out) 0 he2).mono ?_
        rintro e w3 ⟨rfl, rfl⟩
        go_wp2_with fail
        refine (HOF.out _ HB0.out HBX.out).mono ?_
        rintro e w5 ⟨v5, rfl, hrow5, hb5⟩
        obtain ⟨ad5, cap5, rfl⟩ := row_slice hrow5
        have HB5 : Hid (Below w.heap.size w w5) := hid (bel_next HB0.out hb5)
        have y0 : w5.cell? ⟨w.heap.size, 0, none⟩ = some (.int .i64 k) := (HBX.out.below' hb5).cell rfl
        have y3 : w5.cell? ⟨o, 3, none⟩ = some (.slice (some ⟨g, 0, none⟩) O.com.length cap) := (HB5.out.cell (p := ⟨o, 3, none⟩) ho).trans c3
        have y4 : w5.cell? ⟨g, k, none⟩ = some (.int .i64 (O.at k)) := (HB5.out.cell (p := ⟨g, k, none⟩) hg).trans hgk
        clear hrow5 hb5
        go_wp2_with fail
        go_quiet (fail)
        go_wp2_with fail
        go_ret2
        rw [HF.out]
        exact ⟨rfl, bel_next HB5.out (bel_drewN _ _ _)⟩
      · have hgt1 : decide ((0 : Int) < (m : Int)) = true := decide_eq_true (by omega)
        have hgt2 : decide (0 < m) = true := decide_eq_true (by omega)
        rw [if_pos (fun h9 => hz (by rw [← hm, h9]; rfl))] at hdef
        have HF := hid hdef
        clear hdef hpt hm hz
        go_enter Tryz.func32, Tryz.ntmps32
        go_wp2_with fail
        refine (part_is (ad := some ⟨g, 0, none⟩) (cap := cap) (n := O.com.length) k true (by go_simp) hd2).mono ?_
        rintro e w2 ⟨rfl, rfl⟩
        go_wp2_with fail
        refine (broken_is (HO.out.below HB0.out) 0 he2).mono ?_
        rintro e w3 ⟨rfl, rfl⟩
        go_wp2_with fail
        refine (HOF.out _ HB0.out HBX.out).mono ?_
        rintro e w5 ⟨v5, rfl, hrow5, hb5⟩
        obtain ⟨ad5, cap5, rfl⟩ := row_slice hrow5
        have HB5 : Hid (Below w.heap.size w w5) := hid (bel_next HB0.out hb5)
        have y0 : w5.cell? ⟨w.heap.size, 0, none⟩ = some (.int .i64 k) := (HBX.out.below' hb5).cell rfl
        have y3 : w5.cell? ⟨o, 3, none⟩ = some (.slice (some ⟨g, 0, none⟩) O.com.length cap) := (HB5.out.cell (p := ⟨o, 3, none⟩) ho).trans c3
        have y4 : w5.cell? ⟨g, k, none⟩ = some (.int .i64 (O.at k)) := (HB5.out.cell (p := ⟨g, k, none⟩) hg).trans hgk
        clear hrow5 hb5
        go_wp2_with fail
        go_ret2
        rw [HF.out]
        exact ⟨rfl, HB5.out⟩
    · obtain ⟨c, hc⟩ : ∃ c, L.e = c := ⟨_, rfl⟩
      have HF : Hid (rr = (0, c)) := hid (by rw [← HR.out, ← hc]; unfold POff.fetch; rw [if_neg (fun h9 => h9 hpt), if_pos he2])
      have HC := hid hc
      rw [hc] at he2
      have z1 : (c != 0) = true := by simpa using he2
      have z2 : decide (c = 0) = false := decide_eq_false he2
      clear HR hc he2 hpt
      go_enter Tryz.func32, Tryz.ntmps32
      go_wp2_with fail
      refine (part_is (ad := some ⟨g, 0, none⟩) (cap := cap) (n := O.com.length) k true (by go_simp) hd2).mono ?_
      rintro e w2 ⟨rfl, rfl⟩
      go_wp2_with fail
      refine (broken_is (HO.out.below HB0.out) c HC.out).mono ?_
      rintro e w3 ⟨rfl, rfl⟩
      go_wp2_with fail
      go_ret2
      rw [HF.out]
      exact ⟨rfl, HB0.out⟩
  · have hd2 : decide ((0 : Int) ≤ part ∧ part < (O.com.length : Int)) = false := decide_eq_false hpt
    have HF : Hid (rr = (0, 1)) := hid (by rw [← HR.out]; unfold POff.fetch; rw [if_pos hpt])
    clear HR hpt
    go_enter Tryz.func32, Tryz.ntmps32
    go_wp2_with fail
    refine (part_is (ad := ad) (cap := cap) (n := O.com.length) part false (by go_simp) hd2).mono ?_
    rintro e w2 ⟨rfl, rfl⟩
    go_wp2_with fail
    go_ret2
    rw [HF.out]
    exact ⟨rfl, HB0.out⟩

set_option maxHeartbeats 1000000 in
theorem committed_any {w : World} {o l : Nat} {S : Nat → Prop} {O : POff} (h : OffAt w o l S O) (hlen : O.com.length ≤ 4) :
    Calls Tryz.prog 29 #[.pointer (some ⟨o, 0, none⟩)] w fun e w' => ∃ v, e = .returned v ∧ w'.ownsRow w.heap.size 3 1 v O.com.length (comCells O.com) ∧ Below w.heap.size w w' := by
  obtain ⟨cv, pv, hrep, _⟩ := h
  obtain ⟨_, _, _, c3, _⟩ := hrep.cells
  have HC := hid (cloneInt_any hrep.com (fun u hu => by
    unfold comCells at hu
    obtain ⟨q, _, rfl⟩ := List.mem_map.1 hu
    rfl) (by omega))
  clear hrep
  go_enter Tryz.func29, Tryz.ntmps29
  go_wp2_with fail
  refine HC.out.mono ?_
  rintro e w1 ⟨v, rfl, hr, hb⟩
  have HR := hid hr
  have HB := hid hb
  clear hr hb HC
  go_wp2_with fail
  go_ret
  exact ⟨v, rfl, HR.out, HB.out⟩

set_option maxHeartbeats 1000000 in
theorem pends_any {w : World} {o l : Nat} {S : Nat → Prop} {O : POff} (h : OffAt w o l S O) (hlen : O.pend.length ≤ 4) :
    Calls Tryz.prog 34 #[.pointer (some ⟨o, 0, none⟩)] w fun e w' => ∃ v, e = .returned v ∧ w'.ownsRow w.heap.size 78 4 v O.pend.length (pendCells O.pend) ∧ Below w.heap.size w w' := by
  obtain ⟨cv, pv, hrep, _⟩ := h
  obtain ⟨_, _, _, _, c4⟩ := hrep.cells
  have HC := hid (clonePend_any hrep.pend (pend_one _) (by omega))
  clear hrep
  go_enter Tryz.func34, Tryz.ntmps34
  go_wp2_with fail
  refine HC.out.mono ?_
  rintro e w1 ⟨v, rfl, hr, hb⟩
  have HR := hid hr
  have HB := hid hb
  clear hr hb HC
  go_wp2_with fail
  go_ret
  exact ⟨v, rfl, HR.out, HB.out⟩

set_option maxHeartbeats 1000000 in
theorem genOf_any {w : World} {o l : Nat} {S : Nat → Prop} {O : POff} (h : OffAt w o l S O) :
    Calls Tryz.prog 35 #[.pointer (some ⟨o, 0, none⟩)] w fun e w' => e = .returned (.tuple #[.int .i64 O.gen, .int .i64 O.next]) ∧ Below w.heap.size w w' := by
  obtain ⟨cv, pv, hrep, _⟩ := h
  obtain ⟨_, c1, c2, _, _⟩ := hrep.cells
  clear hrep
  go_enter Tryz.func35, Tryz.ntmps35
  go_wp2_with fail
  go_quiet (fail)
  go_wp2_with fail
  go_ret2
  exact ⟨rfl, bel_drewN _ _ _⟩
end Go.Proofs.YtjodkcjlipecdaaGreatDoor

namespace Go.Proofs.YtjodkcjlipecdaaGreatDoor
open Go.RowKit

/-- What Open leaves, of a log whose notes fit. -/
def OffOpenPost (w : World) (d : Nat) (SD : Nat → Prop) (O : POff) (L : PLog) (D : PDisk) (e : Ending) (w' : World) : Prop :=
  ∃ (o l : Nat) (S SL SD' : Nat → Prop), e = .returned (.tuple #[.pointer (some ⟨o, 0, none⟩), .int .i64 0]) ∧ Offs w' o l d S SL SD' O L D ∧ Fr SD w w' ∧ (∀ k, S k → w.heap.size ≤ k) ∧ (∀ k, SL k → w.heap.size ≤ k) ∧ (∀ k, SD' k → SD k ∨ w.heap.size ≤ k)

theorem chain_take9 {b : Int} {l : List Ent} (h : Chain b l) (k : Nat) : (b ≤ endOf b (l.take k)) ∧ ∀ j, k < j → k < l.length → endOf b (l.take k) < endOf b (l.take j) := by
  have hs := List.take_append_drop k l
  have hc2 := h
  rw [← hs] at hc2
  have h1 := (Chain.app.1 hc2).1.le
  refine ⟨h1, fun j hj hk => ?_⟩
  have e : l.take j = l.take k ++ (l.drop k).take (j - k) := by
    rw [List.take_drop]
    have h9 := List.take_append_drop k (l.take j)
    rw [List.take_take, Nat.min_eq_left (by omega)] at h9
    rw [show k + (j - k) = j by omega]
    exact h9.symm
  have hc3 : Chain b (l.take j) := by
    have hs' := List.take_append_drop j l
    have hc4 := h
    rw [← hs'] at hc4
    exact (Chain.app.1 hc4).1
  rw [e] at hc3 ⊢
  have h3 := (Chain.app.1 hc3).2.lt (by intro h9; have := congrArg List.length h9; simp at this; omega)
  rw [endOf_app]
  exact h3

/-- Offsets made behind w1 while Open goes on. -/
structure OOMid (w1 : World) (o l : Nat) (S : Nat → Prop) (O1 : POff) (wr : World) : Prop where
  off : OffAt wr o l S O1
  s : ∀ k, S k → w1.heap.size ≤ k
  bel : Below w1.heap.size w1 wr

theorem OOMid.below {w1 : World} {o l : Nat} {S : Nat → Prop} {O1 : POff} {wr w2 : World} (h : OOMid w1 o l S O1 wr) (hb : Below wr.heap.size wr w2) : OOMid w1 o l S O1 w2 := ⟨h.off.below hb, h.s, bel_next h.bel hb⟩

theorem OOMid.to {w1 : World} {o l : Nat} {S : Nat → Prop} {O1 O2 : POff} {wr w2 : World} (h : OOMid w1 o l S O1 wr) (hto : OffTo wr w2 o l S O2) : ∃ S2, OOMid w1 o l S2 O2 w2 := by
  obtain ⟨S2, a, f, s⟩ := hto
  have hsz := h.bel.size
  refine ⟨S2, a, fun k hk => ?_, h.bel.trans (f.to_below hsz (fun k hk h9 => by have := h.s k h9; omega))⟩
  rcases s k hk with h9 | h9
  · exact h.s k h9
  · omega

theorem OffAt.row {w w2 : World} {o l : Nat} {S : Nat → Prop} {O O2 : POff} (h : OffAt w o l S O) (hto : OffTo w w2 o l S O2) {base : Nat} {v : Value} {n : Nat} {xs : List Value} (hr : w.ownsRow base 105 3 v n xs) : w2.ownsRow base 105 3 v n xs := by
  obtain ⟨S2, a, f, s⟩ := hto
  refine row_fr hr f (fun k hk h9 => ?_)
  obtain ⟨c, hc⟩ := row_blk hr hk
  obtain ⟨c2, T, h2, hT⟩ := h.kind h9
  have := (hc.inj h2).2
  rcases hT with rfl | rfl | rfl <;> exact absurd this (by decide)

theorem zeros_com (n : Nat) : (madeCells (Value.cells (.int .i64 0)) (n * 1)).toList = comCells (List.replicate n 0) := by
  unfold comCells
  rw [List.map_replicate, Nat.mul_one]
  apply List.ext_getElem
  · simp [madeCells, Value.cells]
  · intro i h1 h2
    simp [madeCells, Value.cells, Nat.mod_one]

theorem replay_at {all : List Ent} {O0 O : POff} (h : replay all O0 = some O) {i : Nat} {x : Ent} (hx : all[i]? = some x) {O1 : POff} (h1 : replay (all.take i) O0 = some O1) :
    ∃ n O2, x.n = 1 ∧ noteOf x.text = some n ∧ O1.fold n = some O2 ∧ replay (all.take (i + 1)) O0 = some O2 := by
  have hs : all = all.take (i + 1) ++ all.drop (i + 1) := (List.take_append_drop _ _).symm
  rw [hs] at h
  obtain ⟨O2, h2, _⟩ := replay_split h
  have ht : all.take (i + 1) = all.take i ++ [x] := by rw [List.take_add_one, hx]; rfl
  have h3 := h2
  rw [ht, replay_app, h1] at h3
  have h3 : replay [x] O1 = some O2 := h3
  rw [replay] at h3
  split at h3
  · rename_i hn
    cases hno : noteOf x.text with
    | none => rw [hno] at h3; cases h3
    | some n =>
      rw [hno] at h3
      dsimp only at h3
      cases hf : O1.fold n with
      | none => rw [hf] at h3; cases h3
      | some O3 =>
        rw [hf] at h3
        have e : O3 = O2 := by simpa [replay] using h3
        subst e
        exact ⟨n, O3, hn, rfl, hf, h2⟩
  · cases h3

theorem noteOf_some {t : List UInt8} {n : PNote} (h : noteOf t = some n) : takeAllL 5 t = some ([n.kind, n.a, n.b, n.c, n.d], []) := by
  unfold noteOf at h
  split at h
  · rename_i k a b c d he
    simp only [Option.some.injEq] at h
    subst h
    exact he
  · cases h

set_option maxHeartbeats 4000000 in
theorem offOpen_good {w : World} {d : Nat} {SD : Nat → Prop} {D D3 : PDisk} {N : Int} {A3 : ALog} {O : POff} (parts : Nat) (hp : 1 ≤ parts ∧ parts ≤ 4) (hd : DiskAt w d SD D) (hw : D.WF N) (ho : D.openLog offName = (A3.toP, D3, 0)) (hi : Inv A3 D3) (hw3 : D3.WF N) (hoff : D3.off = false) (he : A3.e = 0)
    (hrep : replay A3.all (POff.init parts) = some O) :
    Calls Tryz.prog 36 #[.pointer (some ⟨d, 0, none⟩), .int .i64 parts] w (OffOpenPost w d SD O A3.toP D3) := by
  obtain ⟨i0, hi0, hz0, hz1, hz2⟩ := info_parts Tryz.infoInt
  obtain ⟨hp1, hp4⟩ := hp
  have hq1 : (1 : Int) ≤ (parts : Int) := by omega
  have hq4 : (parts : Int) ≤ 4 := by omega
  have d1 : decide ((parts : Int) < 1) = false := decide_eq_false (by omega)
  have d4 : decide ((4 : Int) < (parts : Int)) = false := decide_eq_false (by omega)
  obtain ⟨hs1, hs2, hs3⟩ := every_spec hi hw3 hoff he (most := 32) (by decide)
  have hwl := hi.wf hw3
  have hcnt := hi.count hw3
  have hf0 := hi.first
  have HFP := hid (fun off => hi.fetch_pos hw3 hoff off)
  have hnx := hwl.next
  obtain ⟨hch, hend⟩ := hi.all_chain
  have hopen := open_any (N := N) ⟨#[111, 102, 102, 115, 101, 116, 115]⟩ hd hw (by decide)
  have htl : tl (⟨#[111, 102, 102, 115, 101, 116, 115]⟩ : ByteArray) = offName := rfl
  rw [htl, ho] at hopen
  unfold ptr at hopen
  have HOPEN := hid hopen
  have HS1 := hid hs1
  have HS2 := hid hs2
  have HS3 := hid hs3
  have HCH := hid hch
  have HW3 := hid hw3
  have HWL := hid hwl
  have HREP := hid hrep
  have hlen4 : (POff.init parts).com.length = parts := by simp [POff.init]
  have HLEN := hid hlen4
  have hnx1 : 0 ≤ A3.next := hnx.1
  have hnx2 : A3.next ≤ 1099511627776 := hnx.2
  clear hopen htl hs1 hs2 hs3 hch hend hi hw3 hwl hd hw ho hoff he hrep hlen4 hnx
  go_enter Tryz.func36, Tryz.ntmps36
  go_wp2_with fail
  refine HOPEN.out.mono ?_
  rintro e w1 (⟨h9, _⟩ | ⟨_, l, SL, SD1, rfl, hlog, hdisk, hfr, hsl, hsd⟩)
  · exact absurd rfl h9
  have HLOG := hid hlog
  have HDISK := hid hdisk
  have HFR := hid hfr
  have HSL := hid hsl
  have HSD := hid hsd
  unfold ptr
  clear hlog hdisk hfr hsl hsd HOPEN
  go_wp2_with (at_make; refine wpList_make_full _ rfl _ _ 40 rfl w1.heap.size 3 i0 (.int .i64 0) 1 Tryz.underlying40 hi0 hz0 hz1 .i64 .i64 _ _ parts rfl rfl rfl rfl (by rw [hz2]; omega) (by unfold maxLen; omega) (Nat.le_refl _) ?_; intro w2 hown2 hgrow2)
  rw [zeros_com] at hown2
  have hb2 : Below w1.heap.size w1 w2 := ⟨hgrow2.os, hgrow2.tape, hgrow2.output, hgrow2.size, fun k hk => hgrow2.block k hk (by simp)⟩
  have hsz2 := hb2.size
  have hstart : OOMid w1 w2.heap.size l (footO w2.heap.size (.slice (some ⟨w1.heap.size, 0, none⟩) parts parts) (.slice none 0 0)) (POff.init parts) (w2.alloc (.cells #[.pointer (some ⟨l, 0, none⟩), .int .i64 0, .int .i64 1, .slice (some ⟨w1.heap.size, 0, none⟩) parts parts, .slice none 0 0] 159)) := by
    refine ⟨⟨_, _, ⟨Blk.new _ _ _, ?_, World.ownsRow_nil _ _ _ _⟩, fun _ => Iff.rfl⟩, fun k hk => ?_, bel_alloc hb2 _⟩
    · have h9 := own_base (own_bel hown2 (bel_alloc (Below.refl _ _) (.cells #[.pointer (some ⟨l, 0, none⟩), .int .i64 0, .int .i64 1, .slice (some ⟨w1.heap.size, 0, none⟩) parts parts, .slice none 0 0] 159))) (Nat.zero_le _)
      rw [HLEN.out]
      exact h9
    · rcases hk with rfl | hk | hk
      · exact hsz2
      · simp only [Value.ownBlock, Option.some.injEq] at hk; omega
      · cases hk
  have HST := hid hstart
  clear hown2 hgrow2 hb2 hstart
  generalize w2.alloc (.cells #[.pointer (some ⟨l, 0, none⟩), .int .i64 0, .int .i64 1, .slice (some ⟨w1.heap.size, 0, none⟩) parts parts, .slice none 0 0] 159) = w3 at HST ⊢
  generalize footO w2.heap.size (.slice (some ⟨w1.heap.size, 0, none⟩) parts parts) (.slice none 0 0) = S0 at HST
  generalize w2.heap.size = o at HST hsz2 ⊢
  refine (first_any (HLOG.out.below HST.out.bel)).mono ?_
  rintro e w4 ⟨rfl, rfl⟩
  have hf3 : A3.toP.first = A3.first := rfl
  have hn3 : A3.toP.next = A3.next := rfl
  rw [hf3]
  go_wp2_with fail
  go_loopw [9] (fun at' wr => ∃ (k : Nat) (S1 : Nat → Prop) (O1 : POff), k ≤ A3.all.length ∧ at' = .int .i64 (endOf A3.first (A3.all.take k)) ∧ OOMid w1 o l S1 O1 wr ∧ replay (A3.all.take k) (POff.init parts) = some O1)
    (fun at' _ => (A3.next - intOf at').toNat)
  case atStart => exact ⟨0, S0, _, Nat.zero_le _, by simp [endOf_nil], HST.out, rfl⟩
  case round =>
    obtain ⟨k, S1, O1, hk, rfl, hmid, hr1⟩ := hrel
    obtain ⟨g1, g2⟩ := HS3.out k
    have HMID := hid hmid
    have HR1 := hid hr1
    clear hmid hr1
    by_cases hlt : k < A3.all.length
    · have g5 := (HS2.out k hk).2 hlt
      have hq := HS1.out k hlt
      obtain ⟨r, hrr⟩ : ∃ r, (A3.all.drop k).take 32 = r := ⟨_, rfl⟩
      have hq9 : A3.toP.fetch D3 (endOf A3.first (A3.all.take k)) 32 = (r, 0) := by rw [hq, ← hrr]; rfl
      have hrl : 1 ≤ r.length ∧ r.length ≤ 32 ∧ k + r.length ≤ A3.all.length := by rw [← hrr, List.length_take, List.length_drop]; omega
      have hrx : ∀ i x, r[i]? = some x → A3.all[k + i]? = some x := by
        intro i x hx
        rw [← hrr, List.getElem?_take] at hx
        split at hx
        · rwa [List.getElem?_drop] at hx
        · cases hx
      have HRX := hid hrx
      have HQ := hid hq9
      obtain ⟨hrl1, hrl2, hrl3⟩ := hrl
      have hdl : decide (endOf A3.first (A3.all.take k) < A3.toP.next) = true := decide_eq_true g5
      have hgoal : endOf A3.first (A3.all.take k) < endOf A3.first (A3.all.take (k + r.length)) := (chain_take9 HCH.out k).2 (k + r.length) (by omega) hlt
      have HGOAL := hid hgoal
      clear hq hq9 hrr hrx hgoal
      have HAT : Hid (∃ at0, endOf A3.first (A3.all.take k) = at0) := hid ⟨_, rfl⟩
      obtain ⟨at0, hat0⟩ := HAT.out
      rw [hat0] at hdl HQ HGOAL g1 g2 g5 ⊢
      go_wp2_with fail
      refine (next_any (HLOG.out.below HMID.out.bel)).mono ?_
      rintro e w5 ⟨rfl, rfl⟩
      go_wp2_with fail
      refine (fetch_any (N := N) at0 32 (HLOG.out.below HMID.out.bel) (HDISK.out.below HMID.out.bel) HW3.out HWL.out (HFP.out at0)).mono ?_
      rintro e w6 ⟨v, rfl, hrow, hb6⟩
      rw [HQ.out] at hrow
      rw [HQ.out]
      dsimp only at hrow ⊢
      obtain ⟨ge, ce, rfl⟩ : ∃ g cap, v = .slice (some ⟨g, 0, none⟩) r.length cap := by
        rcases Joins.ownsRow_forms hrow with ⟨_, hz⟩ | ⟨g, cap, rfl⟩
        · omega
        · exact ⟨g, cap, rfl⟩
      have hge := hrow.lt ge rfl
      obtain ⟨hge1, hge2⟩ := hge
      have HROW := hid hrow
      have HMID6 := hid (HMID.out.below hb6)
      clear hrow hb6 HMID
      go_wp2_with fail
      go_loopw [9, 53] (fun at' j wr => ∃ (i : Nat) (S1 : Nat → Prop) (O1 : POff), i ≤ r.length ∧ j = .int .i64 i ∧ at' = .int .i64 (endOf A3.first (A3.all.take (k + i))) ∧ OOMid w1 o l S1 O1 wr ∧ replay (A3.all.take (k + i)) (POff.init parts) = some O1 ∧
          wr.ownsRow 0 105 3 (.slice (some ⟨ge, 0, none⟩) r.length ce) r.length (entCells r)) (fun _ j _ => r.length - (intOf j).toNat)
      case atStart => exact ⟨0, S1, O1, Nat.zero_le _, rfl, by rw [Nat.add_zero, hat0], HMID6.out, HR1.out, own_base HROW.out (Nat.zero_le _)⟩
      case round =>
        rename Nat → Prop => S1'
        obtain ⟨i, S2, O2, hil, rfl, rfl, hmid, hr2, hrow⟩ := hrel
        have hi0' : (0 : Int) ≤ (i : Int) := by omega
        by_cases hil2 : i < r.length
        · have hi1' : (i : Int) < (r.length : Int) := by omega
          obtain ⟨x, hx⟩ : ∃ x, r[i]? = some x := ⟨_, List.getElem?_eq_getElem hil2⟩
          obtain ⟨nn, O3, hxn, hno, hfo, hr3⟩ := replay_at HREP.out (HRX.out i x hx) hr2
          obtain ⟨e0, e1, e2⟩ := entCells_at _ _ _ hx
          have c0 := (hrow.cellAt (i * 3) (by omega)).trans e0
          have c1 := (hrow.cellAt (i * 3 + 1) (by omega)).trans e1
          have c2 := (hrow.cellAt (i * 3 + 2) (by omega)).trans e2
          have hger := (hrow.lt ge rfl).2
          have hxok := HCH.out.ok x (List.mem_of_getElem? (HRX.out i x hx))
          have hxb0 : 0 ≤ x.base := hxok.1
          have hxb1 : x.base ≤ 1099511627776 := hxok.2.1
          have hxt : x.text.length ≤ 65536 := hxok.2.2.2.2
          have hnext : endOf A3.first (A3.all.take (k + (i + 1))) = x.base + 1 := by
            have ht : A3.all.take (k + (i + 1)) = A3.all.take (k + i) ++ [x] := by rw [← Nat.add_assoc, List.take_add_one, HRX.out i x hx]; rfl
            rw [ht, endOf_app]
            show x.base + x.n = _
            rw [hxn]
          have HNEXT := hid hnext
          rw [hxn] at c1
          have HNO := hid (noteOf_some hno)
          have HFO := hid hfo
          have HR3 := hid hr3
          have HR2 := hid hr2
          have HM2 := hid hmid
          have HROW2 := hid hrow
          have hne9 : ge ≠ wr.heap.size := by omega
          clear hx hno hfo hr2 hr3 e0 e1 e2 hmid hrow hxok hnext hxn
          have hba : Below wr.heap.size wr (wr.alloc (.cells #[.int .i64 x.base, .int .i64 1, .string (bs x.text)] 105)) := bel_alloc (Below.refl _ _) _
          have hbx := Blk.new wr #[.int .i64 x.base, .int .i64 1, .string (bs x.text)] 105
          have HM3 := hid (HM2.out.below hba)
          have HROW3 := hid (own_bel HROW2.out hba)
          have HBX := hid hbx
          clear hba hbx HM2 HROW2
          go_wp2_with fail
          refine (takeAll_any (bs x.text) 5 _ (by show x.text.length ≤ _; omega) (by omega)).mono ?_
          rintro e w7 ⟨hb7, hm7⟩
          have e7 : takeAllL 5 (tl (bs x.text)) = some ([nn.kind, nn.a, nn.b, nn.c, nn.d], []) := HNO.out
          rw [e7] at hm7
          obtain ⟨v7, rfl, hr7, _⟩ := hm7
          obtain ⟨g7, c7, rfl⟩ : ∃ g cap, v7 = .slice (some ⟨g, 0, none⟩) 5 cap := by
            rcases Joins.ownsRow_forms hr7 with ⟨_, hz⟩ | ⟨g, cap, rfl⟩
            · omega
            · exact ⟨g, cap, rfl⟩
          have k0 : w7.cell? ⟨g7, 0, none⟩ = some (.int .i64 nn.kind) := hr7.cellAt 0 (by omega)
          have k1 : w7.cell? ⟨g7, 1, none⟩ = some (.int .i64 nn.a) := hr7.cellAt 1 (by omega)
          have k2 : w7.cell? ⟨g7, 2, none⟩ = some (.int .i64 nn.b) := hr7.cellAt 2 (by omega)
          have k3 : w7.cell? ⟨g7, 3, none⟩ = some (.int .i64 nn.c) := hr7.cellAt 3 (by omega)
          have k4 : w7.cell? ⟨g7, 4, none⟩ = some (.int .i64 nn.d) := hr7.cellAt 4 (by omega)
          have HBX7 := hid (HBX.out.below' hb7)
          have x0 : w7.cell? ⟨wr.heap.size, 0, none⟩ = some (.int .i64 x.base) := HBX7.out.cell rfl
          have x1 : w7.cell? ⟨wr.heap.size, 1, none⟩ = some (.int .i64 1) := HBX7.out.cell rfl
          have HM7 := hid (HM3.out.below hb7)
          have HROW7 := hid (own_bel HROW3.out hb7)
          have hbn : bs ([] : List UInt8) = ⟨#[]⟩ := rfl
          rw [hbn]
          have hat : ∀ w, (Instr.arrayAt 171 (.slice (some ⟨g7, 0, none⟩) 5 c7)).run Tryz.prog w = .ok (.pointer (some ⟨g7, 0, none⟩)) w := fun w => run_arrayAt w _ _ 5 _ 5 c7 Tryz.underlying171 (by omega)
          clear hr7 hb7 e7 HM3 HROW3 HBX
          go_wp2_with fail
          refine (fold_any nn HM7.out.off (replay_ok (POff.init_ok parts) HR2.out).1 (by rw [(replay_ok (POff.init_ok parts) HR2.out).2, HLEN.out]; exact hp4)).mono ?_
          rintro e w8 ⟨rfl, hto8⟩
          have HROW8 := hid (HM7.out.off.row hto8 HROW7.out)
          have hbx8 : Blk w8 wr.heap.size #[.int .i64 x.base, .int .i64 1, .string (bs x.text)] 105 := by
            obtain ⟨S9, a9, f9, _⟩ := hto8
            refine HBX7.out.fr f9 (fun h9 => ?_)
            obtain ⟨c2, T, h2, hT⟩ := HM7.out.off.kind h9
            have := (HBX7.out.inj h2).2
            rcases hT with rfl | rfl | rfl <;> exact absurd this (by decide)
          have x8 : w8.cell? ⟨wr.heap.size, 0, none⟩ = some (.int .i64 x.base) := hbx8.cell rfl
          obtain ⟨S9, hm9⟩ := HM7.out.to hto8
          have HM9 := hid hm9
          rw [HFO.out] at HM9
          rw [HFO.out]
          clear hto8 hbx8 hm9 HM7 HROW7
          go_wp2_with fail
          go_roundw
          case rel => exact ⟨i + 1, S9, O3, by omega, by go_num, by rw [HNEXT.out], HM9.out, by rw [← Nat.add_assoc]; exact HR3.out, HROW8.out⟩
          case measure => simp [intOf]; omega
        · obtain rfl : i = r.length := by omega
          have HM2 := hid hmid
          have HR2 := hid hr2
          clear hmid hr2 hrow
          have hgl := HGOAL.out
          have hb9 := (HS3.out (k + r.length)).2
          generalize hat2 : endOf A3.first (A3.all.take (k + r.length)) = at2 at hgl hb9 ⊢
          go_wp2_with fail
          go_roundw
          case rel => exact ⟨k + r.length, S2, O2, hrl3, by rw [hat2], HM2.out, HR2.out⟩
          case measure => simp [intOf]; omega
    · obtain rfl : k = A3.all.length := by omega
      have hdl : decide (endOf A3.first (A3.all.take A3.all.length) < A3.toP.next) = false := decide_eq_false (fun h9 => hlt ((HS2.out _ hk).1 h9))
      have ho1 : O1 = O := by
        have h8 := HR1.out
        rw [List.take_length, HREP.out] at h8
        injection h8 with h8
        exact h8.symm
      subst ho1
      simp only [List.take_length] at hdl g1 g2 ⊢
      generalize endOf A3.first A3.all = at0 at hdl g1 g2 ⊢
      have HDL := hid hdl
      have hnl : ¬ at0 < A3.toP.next := of_decide_eq_false hdl
      clear hdl
      go_wp2_with fail
      refine (next_any (HLOG.out.below HMID.out.bel)).mono ?_
      rintro e w5 ⟨rfl, rfl⟩
      go_wp2_with fail
      go_ret2
      have hsz1 := HFR.out.size
      refine ⟨o, l, S1, SL, SD1, rfl, ⟨HMID.out.off, HLOG.out.below HMID.out.bel, HDISK.out.below HMID.out.bel⟩, HFR.out.below HMID.out.bel, fun k hk => ?_, HSL.out, HSD.out⟩
      have := HMID.out.s k hk
      omega
end Go.Proofs.YtjodkcjlipecdaaGreatDoor
