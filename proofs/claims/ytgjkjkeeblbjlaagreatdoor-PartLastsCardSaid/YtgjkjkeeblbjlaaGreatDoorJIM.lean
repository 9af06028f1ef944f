/-
  part: Mark: the walk. Conditions: a partition whose log is well, or tells that it is not.
  Chapter 8's example, and what a write that is told to be well comes to: plain. No conditions.
-/
import Derived.Test.YtgjkjkeeblbjlaaGreatDoorJFM
import Derived.Test.YtgjkjkeeblbjlaaGreatDoorJAM
import Derived.Test.YtgjkjkeeblbjlaaGreatDoorJBM
import Derived.Test.YtgjkjkeeblbjlaaGreatDoorJGM
set_option maxRecDepth 100000
namespace Go.Proofs.YtgjkjkeeblbjlaaGreatDoor
open Go.RowKit

theorem inRecs_nil (w : World) : InRecs w (.slice none 0 0) [] := ⟨none, 0, rfl, Nat.le_refl _, by decide, fun j u h => by simp [recCells] at h⟩

def fencedBy (pid epoch : Int) (x : PProd) : Bool := decide (x.pid = pid) && decide (epoch < x.epoch)

theorem mark_ok {s : PPart} {L : PLog} {D : PDisk} {pid epoch : Int} {yes : Bool} (h : (markOf pid epoch yes).ok) (he : L.e = 0) (hp : (s.prods.any (fencedBy pid epoch)) = false) : s.mark L D pid epoch yes = match openOf s.opens pid with
    | none => ⟨s, L, D, 0, false, 0⟩
    | some _ => ⟨(paWrite s L D (markOf pid epoch yes)).1, (paWrite s L D (markOf pid epoch yes)).2.1, (paWrite s L D (markOf pid epoch yes)).2.2.1, 0, false, (paWrite s L D (markOf pid epoch yes)).2.2.2⟩ := by
  unfold PPart.mark
  have hp' : (s.prods.any fun x => decide (x.pid = pid) && decide (epoch < x.epoch)) = false := hp
  rw [if_neg (fun h9 => h9 h), if_neg (fun h9 => h9 he), hp', if_neg (by decide)]
  cases openOf s.opens pid <;> rfl

set_option maxHeartbeats 16000000 in
theorem paMark_any {w : World} {p l d : Nat} {S SL SD : Nat → Prop} {s : PPart} {A : ALog} {D : PDisk} {N : Int} (pid epoch : Int) (yes : Bool) (h : Trio (paThing p l) w l d S SL SD s A.toP D) (hs : PaSmall s) (hg : A.e = 0 → NGood paNotes N s A D) :
    Calls Tryz.prog 19 #[.pointer (some ⟨p, 0, none⟩), .int .i64 pid, .int .i64 epoch, .bool yes] w (PaPost p l w d S SL SD (s.mark A.toP D pid epoch yes) (.int .i64 (s.mark A.toP D pid epoch yes).e)) := by
  obtain ⟨rr, hrr⟩ : ∃ rr, s.mark A.toP D pid epoch yes = rr := ⟨_, rfl⟩
  rw [hrr]
  have HRR := hid hrr
  have HSM := hid hs
  have HG := hid hg
  have HT := hid h
  have k0 := PaAt.c0 h.obj
  have hplt : p < w.heap.size := World.block_lt_of_cell? w _ k0
  have hne : p ≠ w.heap.size := by omega
  clear hrr h hs hg k0 hplt
  cases yes with
  | false =>
    obtain ⟨mk, hmk⟩ : ∃ mk, markOf pid epoch false = mk := ⟨_, rfl⟩
    have HRK := hid (HRR.out)
    have hmv : mk.val (.slice none 0 0) = .agg #[.int .i64 4, .int .i64 pid, .int .i64 epoch, .int .i64 0, .slice none 0 0] := by rw [← hmk]; rfl
    have hml : mk.l = [] := by rw [← hmk]; rfl
    have HMK := hid hmk
    have HCK : Hid (∀ W, Calls Tryz.prog 40 #[.agg #[.int .i64 4, .int .i64 pid, .int .i64 epoch, .int .i64 0, .slice none 0 0]] W fun e w' => e = .returned (.int .i64 mk.code) ∧ Below W.heap.size W w') := hid (fun W => by
      have h9 := bCheck_any mk (.slice none 0 0) W (by rw [hml]; exact inRecs_nil W) (by rw [hml]; simp) (by rw [hml]; simp)
      rw [hmv] at h9
      exact h9)
    have HMV := hid (And.intro hmv hml)
    have hbk : Blk (w.alloc (.cells #[.int .i64 4, .int .i64 pid, .int .i64 epoch, .int .i64 0, .slice none 0 0] 31)) w.heap.size #[.int .i64 4, .int .i64 pid, .int .i64 epoch, .int .i64 0, .slice none 0 0] 31 := Blk.new w _ _
    have hba : Below w.heap.size w (w.alloc (.cells #[.int .i64 4, .int .i64 pid, .int .i64 epoch, .int .i64 0, .slice none 0 0] 31)) := bel_alloc (Below.refl _ _) _
    have HBK := hid hbk
    have HBA := hid hba
    clear hmk hmv hml hbk hba HRR
    go_enter Tryz.func19, Tryz.ntmps19
    go_wp2_with fail
    generalize w.alloc (.cells #[.int .i64 4, .int .i64 pid, .int .i64 epoch, .int .i64 0, .slice none 0 0] 31) = wa at HBK HBA ⊢
    have HTA := hid (HT.out.below HBA.out)
    have z0 := HBK.out.cell (i := 0) (v := .int .i64 4) rfl
    have z1 := HBK.out.cell (i := 1) (v := .int .i64 pid) rfl
    have z2 := HBK.out.cell (i := 2) (v := .int .i64 epoch) rfl
    have z3 := HBK.out.cell (i := 3) (v := .int .i64 0) rfl
    have z4 := HBK.out.cell (i := 4) (v := .slice none 0 0) rfl
    refine (paNone_any HTA.out.obj).mono ?_
    rintro e w' ⟨rfl, rfl⟩
    go_wp2_with fail
    refine (HCK.out _).mono ?_
    rintro e wb ⟨rfl, hb⟩
    have HBB := hid (bel_next HBA.out hb)
    have HBKB := hid (HBK.out.below' hb)
    have HTB := hid (HTA.out.below hb)
    clear hb HTA HBK HBA z0 z1 z2 z3 z4 HCK
    by_cases hok : mk.ok
    · have hcode : mk.code = 0 := if_pos hok
      rw [hcode]
      have HOK := hid hok
      clear hok hcode
      have c0 := PaAt.c0 HTB.out.obj
      have HBR := hid (broken_any HTB.out.log)
      unfold ptr at HBR
      have hel : A.toP.e = A.e := rfl
      rw [hel] at HBR
      by_cases he : A.e = 0
      · have HNG := hid (HG.out he)
        have HE := hid he
        rw [he] at HBR
        obtain ⟨pv, ov, gv, hr⟩ := PaAt.rep HTB.out.obj
        have c1 := hr.hdr.cell (i := 1) (v := pv) rfl
        have hp8 := HSM.out.p8
        have HROW := hid hr.prods
        obtain ⟨va, vc, rfl⟩ := row_slice HROW.out
        clear he hel HG hr
        go_wp2_with fail
        refine HBR.out.mono ?_
        rintro e w' ⟨rfl, rfl⟩
        go_wp2_with fail
        clear HBR
        go_loopw [40] (fun c wr => ∃ k : Nat, k ≤ s.prods.length ∧ c = .int .i64 k ∧ Below wb.heap.size wb wr ∧ ∀ x ∈ s.prods.take k, fencedBy pid epoch x = false) (fun c _ => s.prods.length - (intOf c).toNat)
        case atStart => exact ⟨0, by omega, rfl, Below.refl _ _, by simp⟩
        case round =>
          obtain ⟨k, hk, rfl, hbel, hall⟩ := hrel
          have HALL := hid hall
          have HB := hid hbel
          clear hall hbel
          by_cases hlt : k < s.prods.length
          · obtain ⟨x, hx⟩ : ∃ x, s.prods[k]? = some x := ⟨_, List.getElem?_eq_getElem hlt⟩
            obtain ⟨g, rfl⟩ : ∃ g, va = some ⟨g, 0, none⟩ := by
              rcases Joins.ownsRow_forms HROW.out with ⟨e9, hz⟩ | ⟨g, cap, e9⟩
              · omega
              · injection e9 with e9 _ _
                exact ⟨g, e9⟩
            have hgl := (HROW.out.lt g rfl).2
            obtain ⟨x0, x1, x2, x3, x4⟩ := (PrRead.own HROW.out).below HB.out hgl k x hx
            have hsz := HB.out.size
            have hgn : g ≠ wr.heap.size := by omega
            have hk0 : (0 : Int) ≤ (k : Int) := by omega
            have hk1 : (k : Int) < (s.prods.length : Int) := by omega
            have HBN := hid (bel_alloc HB.out (.cells #[.int .i64 x.pid, .int .i64 x.epoch, .int .i64 x.seq, .int .i64 x.n, .int .i64 x.base] 91))
            have htk : s.prods.take (k + 1) = s.prods.take k ++ [x] := by rw [List.take_add_one, hx]; rfl
            have HTK := hid htk
            have HX := hid hx
            clear htk hx hsz
            by_cases hpd : x.pid = pid
            · have d1 : decide (x.pid = pid) = true := decide_eq_true hpd
              have d2 : (x.pid == pid) = true := by simpa using hpd
              by_cases hep : epoch < x.epoch
              · have d3 : decide (epoch < x.epoch) = true := decide_eq_true hep
                have HF := hid (TrioTo.of_below HT.out (bel_next HBB.out HBN.out))
                have HR9 : Hid (PaRes.mk s A.toP D 0 false 8 = rr) := hid (by
                  rw [← HRK.out]
                  unfold PPart.mark
                  rw [HMK.out, if_neg (fun h9 => h9 HOK.out), if_neg (fun h9 => h9 (show A.toP.e = 0 from HE.out)), if_pos]
                  exact List.any_eq_true.2 ⟨x, List.mem_of_getElem? HX.out, by rw [d1, d3]; rfl⟩)
                clear hpd hep
                go_wp2_with fail
                refine ⟨rfl, .int .i64 8, by simp [results, Tryz.results19, go_sem], ?_, ?_⟩
                · rw [← HR9.out]
                · rw [← HR9.out]; exact HF.out
              · have d3 : decide (epoch < x.epoch) = false := decide_eq_false hep
                have HXF : Hid (fencedBy pid epoch x = false) := hid (by unfold fencedBy; rw [d3, Bool.and_false])
                clear hpd hep
                go_wp2_with fail
                go_roundw
                case rel =>
                  refine ⟨k + 1, by omega, by go_num, HBN.out, fun y hy => ?_⟩
                  rw [HTK.out] at hy
                  rcases List.mem_append.1 hy with hy | hy
                  · exact HALL.out y hy
                  · simp only [List.mem_singleton] at hy; rw [hy]; exact HXF.out
                case measure => simp [intOf]; omega
            · have d1 : decide (x.pid = pid) = false := decide_eq_false hpd
              have d2 : (x.pid == pid) = false := by simpa using hpd
              have HXF : Hid (fencedBy pid epoch x = false) := hid (by unfold fencedBy; rw [d1, Bool.false_and])
              clear hpd
              go_wp2_with fail
              go_roundw
              case rel =>
                refine ⟨k + 1, by omega, by go_num, HBN.out, fun y hy => ?_⟩
                rw [HTK.out] at hy
                rcases List.mem_append.1 hy with hy | hy
                · exact HALL.out y hy
                · simp only [List.mem_singleton] at hy; rw [hy]; exact HXF.out
              case measure => simp [intOf]; omega
          · obtain rfl : k = s.prods.length := by omega
            have HAN : Hid (s.prods.any (fencedBy pid epoch) = false) := hid (List.any_eq_false.2 (fun x hx => by rw [HALL.out x (by rw [List.take_length]; exact hx)]; decide))
            have HTW := hid (HTB.out.below HB.out)
            have HBW := hid (bel_next HBB.out HB.out)
            have HBKW := hid (HBKB.out.below' HB.out)
            clear HALL c0 c1 hlt
            go_wp2_with fail
            refine (paFind_any pid HTW.out.obj (Nat.le_trans HSM.out.ol (by decide))).mono ?_
            rintro e w4 ⟨⟨r, rfl, hfo⟩, hb4⟩
            have HB4 := hid (bel_next HBW.out hb4)
            have HT4 := hid (HTW.out.below hb4)
            have HBK4 := hid (HBKW.out.below' hb4)
            have hmark := mark_ok (D := D) (L := A.toP) (s := s) (by rw [HMK.out]; exact HOK.out) HE.out HAN.out
            rw [HRK.out] at hmark
            have HMARK := hid hmark
            clear hb4 HTW HBW HBKW HB hmark HRK HAN HBB HBKB HTB HROW
            rcases hfo with ⟨rfl, hon⟩ | ⟨k, o0, rfl, _, _, hoo, _⟩
            · have HR9 : Hid (rr = ⟨s, A.toP, D, 0, false, 0⟩) := hid (by rw [HMARK.out, hon])
              have HF := hid (TrioTo.of_below HT.out HB4.out)
              clear hon HMARK
              go_wp2_with fail
              refine ⟨rfl, .int .i64 0, by simp [results, Tryz.results19, go_sem], ?_, ?_⟩
              · rw [HR9.out]
              · rw [HR9.out]; exact HF.out
            · have HR9 : Hid (rr = ⟨(paWrite s A.toP D mk).1, (paWrite s A.toP D mk).2.1, (paWrite s A.toP D mk).2.2.1, 0, false, (paWrite s A.toP D mk).2.2.2⟩) := hid (by rw [HMARK.out, hoo]; dsimp only; rw [HMK.out])
              have hwr := paWrite_any mk (.slice none 0 0) HT4.out HNG.out HOK.out (by rw [HMV.out.2]; exact inRecs_nil w4)
              rw [HMV.out.1] at hwr
              have HWR := hid hwr
              have z0 := HBK4.out.cell (i := 0) (v := .int .i64 4) rfl
              have z1 := HBK4.out.cell (i := 1) (v := .int .i64 pid) rfl
              have z2 := HBK4.out.cell (i := 2) (v := .int .i64 epoch) rfl
              have z3 := HBK4.out.cell (i := 3) (v := .int .i64 0) rfl
              have z4 := HBK4.out.cell (i := 4) (v := .slice none 0 0) rfl
              have hkn1 : decide ((k : Int) < 0) = false := decide_eq_false (by omega)
              clear hoo HMARK hwr
              go_wp2_with fail
              refine HWR.out.mono ?_
              rintro e w5 ⟨rfl, hto⟩
              have HF := hid (TrioTo.after HB4.out hto)
              clear hto HWR HT4 HBK4 z0 z1 z2 z3 z4
              generalize (if (paWrite s A.toP D mk).2.2.2 ≠ 0 then 0 else A.next) = nn
              go_wp2_with fail
              refine ⟨rfl, .int .i64 (paWrite s A.toP D mk).2.2.2, by simp [results, Tryz.results19, go_sem], ?_, ?_⟩
              · rw [HR9.out]
              · rw [HR9.out]; exact HF.out
      · have hz1 : (A.e != 0) = true := by simpa using he
        have hz2 : decide (A.e = 0) = false := decide_eq_false he
        have HR9 : Hid (PaRes.mk s A.toP D 0 false A.e = rr) := hid (by
          rw [← HRK.out]
          unfold PPart.mark
          rw [HMK.out, if_neg (fun h9 => h9 HOK.out), if_pos (show A.toP.e ≠ 0 from he)]
          rfl)
        have HF := hid (TrioTo.of_below HT.out HBB.out)
        clear he hel HG
        go_wp2_with fail
        refine HBR.out.mono ?_
        rintro e w' ⟨rfl, rfl⟩
        go_wp2_with fail
        refine ⟨rfl, .int .i64 A.e, by simp [results, Tryz.results19, go_sem], ?_, ?_⟩
        · rw [← HR9.out]
        · rw [← HR9.out]; exact HF.out
    · have hcode : mk.code = 1 := if_neg hok
      rw [hcode]
      have HR9 : Hid (PaRes.mk s A.toP D 0 false 1 = rr) := hid (by
        rw [← HRK.out]
        unfold PPart.mark
        rw [HMK.out, if_pos hok])
      have HF := hid (TrioTo.of_below HT.out HBB.out)
      clear hok hcode HG
      go_wp2_with fail
      refine ⟨rfl, .int .i64 1, by simp [results, Tryz.results19, go_sem], ?_, ?_⟩
      · rw [← HR9.out]
      · rw [← HR9.out]; exact HF.out
  | true =>
    obtain ⟨mk, hmk⟩ : ∃ mk, markOf pid epoch true = mk := ⟨_, rfl⟩
    have HRK := hid (HRR.out)
    have hmv : mk.val (.slice none 0 0) = .agg #[.int .i64 3, .int .i64 pid, .int .i64 epoch, .int .i64 0, .slice none 0 0] := by rw [← hmk]; rfl
    have hml : mk.l = [] := by rw [← hmk]; rfl
    have HMK := hid hmk
    have HCK : Hid (∀ W, Calls Tryz.prog 40 #[.agg #[.int .i64 3, .int .i64 pid, .int .i64 epoch, .int .i64 0, .slice none 0 0]] W fun e w' => e = .returned (.int .i64 mk.code) ∧ Below W.heap.size W w') := hid (fun W => by
      have h9 := bCheck_any mk (.slice none 0 0) W (by rw [hml]; exact inRecs_nil W) (by rw [hml]; simp) (by rw [hml]; simp)
      rw [hmv] at h9
      exact h9)
    have HMV := hid (And.intro hmv hml)
    have hbk : Blk (w.alloc (.cells #[.int .i64 3, .int .i64 pid, .int .i64 epoch, .int .i64 0, .slice none 0 0] 31)) w.heap.size #[.int .i64 3, .int .i64 pid, .int .i64 epoch, .int .i64 0, .slice none 0 0] 31 := Blk.new w _ _
    have hba : Below w.heap.size w (w.alloc (.cells #[.int .i64 3, .int .i64 pid, .int .i64 epoch, .int .i64 0, .slice none 0 0] 31)) := bel_alloc (Below.refl _ _) _
    have HBK := hid hbk
    have HBA := hid hba
    clear hmk hmv hml hbk hba HRR
    go_enter Tryz.func19, Tryz.ntmps19
    go_wp2_with fail
    generalize w.alloc (.cells #[.int .i64 3, .int .i64 pid, .int .i64 epoch, .int .i64 0, .slice none 0 0] 31) = wa at HBK HBA ⊢
    have HTA := hid (HT.out.below HBA.out)
    have z0 := HBK.out.cell (i := 0) (v := .int .i64 3) rfl
    have z1 := HBK.out.cell (i := 1) (v := .int .i64 pid) rfl
    have z2 := HBK.out.cell (i := 2) (v := .int .i64 epoch) rfl
    have z3 := HBK.out.cell (i := 3) (v := .int .i64 0) rfl
    have z4 := HBK.out.cell (i := 4) (v := .slice none 0 0) rfl
    refine (paNone_any HTA.out.obj).mono ?_
    rintro e w' ⟨rfl, rfl⟩
    go_wp2_with fail
    refine (HCK.out _).mono ?_
    rintro e wb ⟨rfl, hb⟩
    have HBB := hid (bel_next HBA.out hb)
    have HBKB := hid (HBK.out.below' hb)
    have HTB := hid (HTA.out.below hb)
    clear hb HTA HBK HBA z0 z1 z2 z3 z4 HCK
    by_cases hok : mk.ok
    · have hcode : mk.code = 0 := if_pos hok
      rw [hcode]
      have HOK := hid hok
      clear hok hcode
      have c0 := PaAt.c0 HTB.out.obj
      have HBR := hid (broken_any HTB.out.log)
      unfold ptr at HBR
      have hel : A.toP.e = A.e := rfl
      rw [hel] at HBR
      by_cases he : A.e = 0
      · have HNG := hid (HG.out he)
        have HE := hid he
        rw [he] at HBR
        obtain ⟨pv, ov, gv, hr⟩ := PaAt.rep HTB.out.obj
        have c1 := hr.hdr.cell (i := 1) (v := pv) rfl
        have hp8 := HSM.out.p8
        have HROW := hid hr.prods
        obtain ⟨va, vc, rfl⟩ := row_slice HROW.out
        clear he hel HG hr
        go_wp2_with fail
        refine HBR.out.mono ?_
        rintro e w' ⟨rfl, rfl⟩
        go_wp2_with fail
        clear HBR
        go_loopw [40] (fun c wr => ∃ k : Nat, k ≤ s.prods.length ∧ c = .int .i64 k ∧ Below wb.heap.size wb wr ∧ ∀ x ∈ s.prods.take k, fencedBy pid epoch x = false) (fun c _ => s.prods.length - (intOf c).toNat)
        case atStart => exact ⟨0, by omega, rfl, Below.refl _ _, by simp⟩
        case round =>
          obtain ⟨k, hk, rfl, hbel, hall⟩ := hrel
          have HALL := hid hall
          have HB := hid hbel
          clear hall hbel
          by_cases hlt : k < s.prods.length
          · obtain ⟨x, hx⟩ : ∃ x, s.prods[k]? = some x := ⟨_, List.getElem?_eq_getElem hlt⟩
            obtain ⟨g, rfl⟩ : ∃ g, va = some ⟨g, 0, none⟩ := by
              rcases Joins.ownsRow_forms HROW.out with ⟨e9, hz⟩ | ⟨g, cap, e9⟩
              · omega
              · injection e9 with e9 _ _
                exact ⟨g, e9⟩
            have hgl := (HROW.out.lt g rfl).2
            obtain ⟨x0, x1, x2, x3, x4⟩ := (PrRead.own HROW.out).below HB.out hgl k x hx
            have hsz := HB.out.size
            have hgn : g ≠ wr.heap.size := by omega
            have hk0 : (0 : Int) ≤ (k : Int) := by omega
            have hk1 : (k : Int) < (s.prods.length : Int) := by omega
            have HBN := hid (bel_alloc HB.out (.cells #[.int .i64 x.pid, .int .i64 x.epoch, .int .i64 x.seq, .int .i64 x.n, .int .i64 x.base] 91))
            have htk : s.prods.take (k + 1) = s.prods.take k ++ [x] := by rw [List.take_add_one, hx]; rfl
            have HTK := hid htk
            have HX := hid hx
            clear htk hx hsz
            by_cases hpd : x.pid = pid
            · have d1 : decide (x.pid = pid) = true := decide_eq_true hpd
              have d2 : (x.pid == pid) = true := by simpa using hpd
              by_cases hep : epoch < x.epoch
              · have d3 : decide (epoch < x.epoch) = true := decide_eq_true hep
                have HF := hid (TrioTo.of_below HT.out (bel_next HBB.out HBN.out))
                have HR9 : Hid (PaRes.mk s A.toP D 0 false 8 = rr) := hid (by
                  rw [← HRK.out]
                  unfold PPart.mark
                  rw [HMK.out, if_neg (fun h9 => h9 HOK.out), if_neg (fun h9 => h9 (show A.toP.e = 0 from HE.out)), if_pos]
                  exact List.any_eq_true.2 ⟨x, List.mem_of_getElem? HX.out, by rw [d1, d3]; rfl⟩)
                clear hpd hep
                go_wp2_with fail
                refine ⟨rfl, .int .i64 8, by simp [results, Tryz.results19, go_sem], ?_, ?_⟩
                · rw [← HR9.out]
                · rw [← HR9.out]; exact HF.out
              · have d3 : decide (epoch < x.epoch) = false := decide_eq_false hep
                have HXF : Hid (fencedBy pid epoch x = false) := hid (by unfold fencedBy; rw [d3, Bool.and_false])
                clear hpd hep
                go_wp2_with fail
                go_roundw
                case rel =>
                  refine ⟨k + 1, by omega, by go_num, HBN.out, fun y hy => ?_⟩
                  rw [HTK.out] at hy
                  rcases List.mem_append.1 hy with hy | hy
                  · exact HALL.out y hy
                  · simp only [List.mem_singleton] at hy; rw [hy]; exact HXF.out
                case measure => simp [intOf]; omega
            · have d1 : decide (x.pid = pid) = false := decide_eq_false hpd
              have d2 : (x.pid == pid) = false := by simpa using hpd
              have HXF : Hid (fencedBy pid epoch x = false) := hid (by unfold fencedBy; rw [d1, Bool.false_and])
              clear hpd
              go_wp2_with fail
              go_roundw
              case rel =>
                refine ⟨k + 1, by omega, by go_num, HBN.out, fun y hy => ?_⟩
                rw [HTK.out] at hy
                rcases List.mem_append.1 hy with hy | hy
                · exact HALL.out y hy
                · simp only [List.mem_singleton] at hy; rw [hy]; exact HXF.out
              case measure => simp [intOf]; omega
          · obtain rfl : k = s.prods.length := by omega
            have HAN : Hid (s.prods.any (fencedBy pid epoch) = false) := hid (List.any_eq_false.2 (fun x hx => by rw [HALL.out x (by rw [List.take_length]; exact hx)]; decide))
            have HTW := hid (HTB.out.below HB.out)
            have HBW := hid (bel_next HBB.out HB.out)
            have HBKW := hid (HBKB.out.below' HB.out)
            clear HALL c0 c1 hlt
            go_wp2_with fail
            refine (paFind_any pid HTW.out.obj (Nat.le_trans HSM.out.ol (by decide))).mono ?_
            rintro e w4 ⟨⟨r, rfl, hfo⟩, hb4⟩
            have HB4 := hid (bel_next HBW.out hb4)
            have HT4 := hid (HTW.out.below hb4)
            have HBK4 := hid (HBKW.out.below' hb4)
            have hmark := mark_ok (D := D) (L := A.toP) (s := s) (by rw [HMK.out]; exact HOK.out) HE.out HAN.out
            rw [HRK.out] at hmark
            have HMARK := hid hmark
            clear hb4 HTW HBW HBKW HB hmark HRK HAN HBB HBKB HTB HROW
            rcases hfo with ⟨rfl, hon⟩ | ⟨k, o0, rfl, _, _, hoo, _⟩
            · have HR9 : Hid (rr = ⟨s, A.toP, D, 0, false, 0⟩) := hid (by rw [HMARK.out, hon])
              have HF := hid (TrioTo.of_below HT.out HB4.out)
              clear hon HMARK
              go_wp2_with fail
              refine ⟨rfl, .int .i64 0, by simp [results, Tryz.results19, go_sem], ?_, ?_⟩
              · rw [HR9.out]
              · rw [HR9.out]; exact HF.out
            · have HR9 : Hid (rr = ⟨(paWrite s A.toP D mk).1, (paWrite s A.toP D mk).2.1, (paWrite s A.toP D mk).2.2.1, 0, false, (paWrite s A.toP D mk).2.2.2⟩) := hid (by rw [HMARK.out, hoo]; dsimp only; rw [HMK.out])
              have hwr := paWrite_any mk (.slice none 0 0) HT4.out HNG.out HOK.out (by rw [HMV.out.2]; exact inRecs_nil w4)
              rw [HMV.out.1] at hwr
              have HWR := hid hwr
              have z0 := HBK4.out.cell (i := 0) (v := .int .i64 3) rfl
              have z1 := HBK4.out.cell (i := 1) (v := .int .i64 pid) rfl
              have z2 := HBK4.out.cell (i := 2) (v := .int .i64 epoch) rfl
              have z3 := HBK4.out.cell (i := 3) (v := .int .i64 0) rfl
              have z4 := HBK4.out.cell (i := 4) (v := .slice none 0 0) rfl
              have hkn1 : decide ((k : Int) < 0) = false := decide_eq_false (by omega)
              clear hoo HMARK hwr
              go_wp2_with fail
              refine HWR.out.mono ?_
              rintro e w5 ⟨rfl, hto⟩
              have HF := hid (TrioTo.after HB4.out hto)
              clear hto HWR HT4 HBK4 z0 z1 z2 z3 z4
              generalize (if (paWrite s A.toP D mk).2.2.2 ≠ 0 then 0 else A.next) = nn
              go_wp2_with fail
              refine ⟨rfl, .int .i64 (paWrite s A.toP D mk).2.2.2, by simp [results, Tryz.results19, go_sem], ?_, ?_⟩
              · rw [HR9.out]
              · rw [HR9.out]; exact HF.out
      · have hz1 : (A.e != 0) = true := by simpa using he
        have hz2 : decide (A.e = 0) = false := decide_eq_false he
        have HR9 : Hid (PaRes.mk s A.toP D 0 false A.e = rr) := hid (by
          rw [← HRK.out]
          unfold PPart.mark
          rw [HMK.out, if_neg (fun h9 => h9 HOK.out), if_pos (show A.toP.e ≠ 0 from he)]
          rfl)
        have HF := hid (TrioTo.of_below HT.out HBB.out)
        clear he hel HG
        go_wp2_with fail
        refine HBR.out.mono ?_
        rintro e w' ⟨rfl, rfl⟩
        go_wp2_with fail
        refine ⟨rfl, .int .i64 A.e, by simp [results, Tryz.results19, go_sem], ?_, ?_⟩
        · rw [← HR9.out]
        · rw [← HR9.out]; exact HF.out
    · have hcode : mk.code = 1 := if_neg hok
      rw [hcode]
      have HR9 : Hid (PaRes.mk s A.toP D 0 false 1 = rr) := hid (by
        rw [← HRK.out]
        unfold PPart.mark
        rw [HMK.out, if_pos hok])
      have HF := hid (TrioTo.of_below HT.out HBB.out)
      clear hok hcode HG
      go_wp2_with fail
      refine ⟨rfl, .int .i64 1, by simp [results, Tryz.results19, go_sem], ?_, ?_⟩
      · rw [← HR9.out]
      · rw [← HR9.out]; exact HF.out
end Go.Proofs.YtgjkjkeeblbjlaaGreatDoor

namespace Go.Proofs.YtgjkjkeeblbjlaaGreatDoor
open Go.RowKit

/-- A write that is told to be well. -/
theorem paWrite_ok {N : Int} {s : PPart} {A : ALog} {D : PDisk} {b : PBat} (h : NGood paNotes N s A D) (hb : b.ok) (hc : (paWrite s A.toP D b).2.2.2 = 0) :
    ∃ A' D', paWrite s A.toP D b = (s.took b A.next, A'.toP, D', 0) ∧ NGood paNotes N (s.took b A.next) A' D' ∧ A'.all = A.all ++ [⟨A.next, b.len, b.lay⟩] ∧ A'.next = A.next + b.len ∧ (D.fuse = -1 → D'.fuse = -1) := by
  have ho : EOut paNotes N (fun _ _ => True) s A D ⟨b.len, b.lay⟩ (s.took b A.next) (paWrite s A.toP D b) := h.entry (it := ⟨b.len, b.lay⟩) (paStep hb s) trivial
  generalize paWrite s A.toP D b = r at ho hc ⊢
  cases ho with
  | ok A' D' good fuse all next n => exact ⟨A', D', rfl, good, all, next, fuse⟩
  | no A' D' c good hc' fuse all => exact absurd hc hc'
  | dark A' D' dark was => exact absurd hc (show ¬ ((4 : Int) = 0) by decide)

def aP : ALog := ⟨paName, [], 0, 0⟩
def dP (n : Int) : PDisk := ⟨[], n, -1, false⟩
def sP : PPart := ⟨[], [], []⟩

theorem dP_wf9 : (dP 9).WF 9 := ⟨by simp [dP, Sorted], by simp [dP], by simp [dP], by decide, by decide +kernel, by decide, by decide, by decide⟩
theorem dP_wf1000 : (dP 1000).WF 1000 := ⟨by simp [dP, Sorted], by simp [dP], by simp [dP], by decide, by decide +kernel, by decide, by decide, by decide⟩
theorem aP_inv (n : Int) : Inv aP (dP n) := by
  refine ⟨by decide, Int.le_refl _, (by decide : (0 : Int) ≤ 1099511627776), trivial, fun s hs => by simp [aP] at hs, rfl, ?_, fun s f hs => by simp [aP] at hs, fun _ => rfl⟩
  intro f hf
  have hf : f ∈ ([] : List PFile).dropLast := hf
  cases hf
theorem dP_open9 : (dP 9).openLog paName = (aP.toP, dP 9, 0) := by kernel_rfl
theorem dP_open1000 : (dP 1000).openLog paName = (aP.toP, dP 1000, 0) := by kernel_rfl
theorem paNew9 : NGood paNotes 9 sP aP (dP 9) := ⟨aP_inv 9, dP_wf9, rfl, rfl, rfl, rfl, rfl, rfl⟩
theorem paNew1000 : NGood paNotes 1000 sP aP (dP 1000) := ⟨aP_inv 1000, dP_wf1000, rfl, rfl, rfl, rfl, rfl, rfl⟩

def exB : PBat := ⟨2, 1, 1, 0, [⟨0, 0, [120]⟩]⟩
def exM : PBat := ⟨3, 1, 1, 0, []⟩
def exS1 : PPart := ⟨[⟨1, 1, 0, 1, 0⟩], [⟨1, 0⟩], []⟩
def exS2 : PPart := ⟨[⟨1, 1, 0, 1, 0⟩], [], []⟩
def exW1 : PPart × PLog × PDisk × Int := paWrite sP aP.toP (dP 9) exB
def exW2 : PPart × PLog × PDisk × Int := paWrite exS1 exW1.2.1 exW1.2.2.1 exM

theorem exB_ok : exB.ok := by decide
theorem exM_ok : exM.ok := by decide
theorem exC1 : exW1.2.2.2 = 0 := by kernel_rfl
theorem exC2 : exW2.2.2.2 = 0 := by kernel_rfl
theorem exT1 : sP.took exB 0 = exS1 := by kernel_rfl
theorem exT2 : exS1.took exM 1 = exS2 := by kernel_rfl
theorem exL : lookP sP.prods exB = (0, false, 0) := by kernel_rfl
theorem exP : (exS1.prods.any fun x => decide (x.pid = 1) && decide (1 < x.epoch)) = false := by kernel_rfl
theorem exO : openOf exS1.opens 1 = some ⟨1, 0⟩ := by kernel_rfl
theorem exG1 : exS1.gets 0 0 true [⟨0, 1, exB.lay⟩] ([], 0) = ([], 0) := by kernel_rfl
theorem exG2 : exS2.gets 2 0 true [⟨0, 1, exB.lay⟩, ⟨1, 1, exM.lay⟩] ([], 0) = ([⟨0, ⟨0, 0, [120]⟩⟩], 2) := by kernel_rfl

theorem ex_put : ∃ A1 D1, sP.put aP.toP (dP 9) exB = ⟨exS1, A1.toP, D1, 0, false, 0⟩ ∧ NGood paNotes 9 exS1 A1 D1 ∧ exW1 = (exS1, A1.toP, D1, 0) ∧ A1.all = [⟨0, 1, exB.lay⟩] ∧ A1.next = 1 := by
  obtain ⟨A1, D1, h1, h2, h3, h4, _⟩ := paWrite_ok paNew9 exB_ok exC1
  have hn : aP.next = 0 := rfl
  rw [hn, exT1] at h1 h2
  have hw : paWrite sP aP.toP (dP 9) exB = (exS1, A1.toP, D1, 0) := h1
  refine ⟨A1, D1, ?_, h2, hw, h3, h4⟩
  unfold PPart.put
  rw [if_neg (show ¬ aP.toP.e ≠ 0 from fun h => h rfl)]
  dsimp only
  rw [exL, if_neg (by decide), hw]
  rfl

theorem ex_mark {A1 : ALog} {D1 : PDisk} (h2 : NGood paNotes 9 exS1 A1 D1) (hw : exW1 = (exS1, A1.toP, D1, 0)) (ha : A1.all = [⟨0, 1, exB.lay⟩]) (hn : A1.next = 1) :
    ∃ A2 D2, exS1.mark A1.toP D1 1 1 true = ⟨exS2, A2.toP, D2, 0, false, 0⟩ ∧ NGood paNotes 9 exS2 A2 D2 ∧ A2.all = [⟨0, 1, exB.lay⟩, ⟨1, 1, exM.lay⟩] ∧ A2.next = 2 := by
  have hc : (paWrite exS1 A1.toP D1 exM).2.2.2 = 0 := by
    have h9 := exC2
    unfold exW2 at h9
    rw [hw] at h9
    exact h9
  obtain ⟨A2, D2, h3, h4, h5, h6, _⟩ := paWrite_ok h2 exM_ok hc
  rw [hn, exT2] at h3 h4
  rw [hn, ha] at h5
  rw [hn] at h6
  refine ⟨A2, D2, ?_, h4, h5, h6⟩
  unfold PPart.mark
  have hm : markOf 1 1 true = exM := rfl
  rw [hm, if_neg (fun h => h exM_ok), if_neg (show ¬ A1.toP.e ≠ 0 from fun h => h h2.e), exP, if_neg (by decide), exO]
  dsimp only
  rw [h3]

theorem ex_fetch1 {A1 : ALog} {D1 : PDisk} (h2 : NGood paNotes 9 exS1 A1 D1) (ha : A1.all = [⟨0, 1, exB.lay⟩]) (hn : A1.next = 1) : exS1.fetch A1.toP D1 0 9 true = ([], 0, 0) := by
  have hf := h2.inv.fetch h2.wf h2.off h2.e (off := 0) (most := 9) (by decide) (by rw [h2.first]; decide) (by rw [hn]; decide)
  have hl : A1.toP.fetch D1 0 9 = ([⟨0, 1, exB.lay⟩], 0) := by rw [hf, ha]; rfl
  have hst : exS1.stable A1.toP = 0 := rfl
  unfold PPart.fetch
  rw [hl, hst]
  dsimp only
  rw [if_neg (by decide), exG1]

theorem ex_fetch2 {A2 : ALog} {D2 : PDisk} (h2 : NGood paNotes 9 exS2 A2 D2) (ha : A2.all = [⟨0, 1, exB.lay⟩, ⟨1, 1, exM.lay⟩]) (hn : A2.next = 2) : exS2.fetch A2.toP D2 0 9 true = ([⟨0, ⟨0, 0, [120]⟩⟩], 2, 0) := by
  have hf := h2.inv.fetch h2.wf h2.off h2.e (off := 0) (most := 9) (by decide) (by rw [h2.first]; decide) (by rw [hn]; decide)
  have hl : A2.toP.fetch D2 0 9 = ([⟨0, 1, exB.lay⟩, ⟨1, 1, exM.lay⟩], 0) := by rw [hf, ha]; rfl
  have hst : exS2.stable A2.toP = 2 := hn
  unfold PPart.fetch
  rw [hl, hst]
  dsimp only
  rw [if_neg (by decide), exG2]
end Go.Proofs.YtgjkjkeeblbjlaaGreatDoor
