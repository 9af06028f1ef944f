/-
  seglog: Append: the walk. Conditions: texts that fit.
-/
import Derived.Test.YtnibpknhpjcamaaGreatDoorLogB
import Derived.StillTailTactics
import Derived.Deep.RegionHeld3
set_option maxRecDepth 100000
namespace Go.Proofs.YtnibpknhpjcamaaGreatDoor
open Go.RowKit


/-- Where active points. -/
def ActPtr (L : PLog) (sv : Value) (p : Option Addr) : Prop :=
  (p = none ∧ L.act = none) ∨ ∃ (g cap : Nat) (a : List PSeg) (x : PSeg), p = some ⟨g, a.length * 4, none⟩ ∧ sv = .slice (some ⟨g, 0, none⟩) L.segs.length cap ∧ L.segs = a ++ [x] ∧ x.bytes < 1024 ∧ L.act = some x

theorem PLog.act_split {L : PLog} {x : PSeg} (h : L.act = some x) : ∃ a, L.segs = a ++ [x] ∧ x.bytes < 1024 := by
  unfold PLog.act at h
  cases hg : L.segs.getLast? with
  | none => rw [hg] at h; cases h
  | some y =>
    rw [hg] at h
    simp only at h
    split at h
    · rename_i hy
      cases h
      rw [List.getLast?_eq_some_iff] at hg
      obtain ⟨a, ha⟩ := hg
      exact ⟨a, ha, hy⟩
    · cases h

theorem active_any {w : World} {l d : Nat} {ms : List Value} {sv : Value} {L : PLog} (h : LogRep w l d ms sv L) (hlen : L.segs.length ≤ 1000000) :
    Calls Tryz.prog 58 #[ptr l] w fun e w' => (∃ p, e = .returned (.pointer p) ∧ ActPtr L sv p) ∧ w = w' := by
  cases ha : L.act with
  | none => exact (active_none h ha hlen).mono fun e w' ⟨he, hw⟩ => ⟨⟨none, he, .inl ⟨rfl, ha⟩⟩, hw⟩
  | some x =>
    obtain ⟨a, hs, hx⟩ := PLog.act_split ha
    obtain ⟨g, cap, hsv⟩ : ∃ g cap, sv = .slice (some ⟨g, 0, none⟩) L.segs.length cap := Joins.ownsRow_form h.segs (by rw [hs]; simp)
    subst hsv
    exact (active_some h hs hx hlen).mono fun e w' ⟨he, hw⟩ => ⟨⟨_, he, .inr ⟨g, cap, a, x, rfl, rfl, hs, hx, ha⟩⟩, hw⟩

theorem seg_notDisk {w : World} {b d : Nat} {SD : Nat → Prop} {D : PDisk} {c : Array Value} (h : Blk w b c 99) (hd : DiskAt w d SD D) : ¬ SD b :=
  SegBlk.notDisk ⟨_, _, h⟩ hd

theorem Tryz.infoSeg : (Tryz.prog.info? 99).map (fun i => (i.zero, i.size, i.bytes)) = some (some (.agg #[.int .i64 0, .int .i64 0, .int .i64 0, .slice none 0 0]), 4, 48) := by kernel_rfl

theorem PLog.sync_next (L : PLog) (D : PDisk) : (L.sync D).1.next = L.next ∧ (L.sync D).1.segs = L.segs ∧ (L.sync D).1.name = L.name := by
  unfold PLog.sync
  split
  · exact ⟨rfl, rfl, rfl⟩
  · split <;> exact ⟨rfl, rfl, rfl⟩

theorem PLog.sync_err (L : PLog) (D : PDisk) : (L.sync D).1.e = (L.sync D).2.2 := by
  unfold PLog.sync
  split
  · rfl
  · split
    · rfl
    · rfl

theorem PLog.sync_disk {L : PLog} {D : PDisk} {N : Int} (h : D.WF N) : (L.sync D).2.1.WF N := by
  unfold PLog.sync
  split
  · exact h
  · split
    · exact h
    · exact h.sync _

theorem PLog.WF.sync {L : PLog} (h : L.WF) (D : PDisk) : (L.sync D).1.WF := by
  obtain ⟨h1, h2, h3⟩ := L.sync_next D
  exact ⟨by rw [h3]; exact h.name, by rw [h2]; exact h.count, by rw [h2]; exact h.base, by rw [h2]; exact h.bytes, by rw [h2]; exact h.entries, by rw [h2]; exact h.marks, by rw [h1]; exact h.next⟩

set_option maxHeartbeats 8000000 in
theorem append_first {w : World} {l d : Nat} {S SD : Nat → Prop} {L : PLog} {D : PDisk} {N : Int} (iv : Value) (its : List PItem) (h : LogAt w l d S L) (hd : DiskAt w d SD D) (hw : D.WF N) (hwl : L.WF) (hit : Reads w iv its.length 2 (itemCells its)) (hne : its ≠ []) (he : L.e = 0) (hcnt : its.length ≤ 64) (htx : ∀ x ∈ its, x.text.length ≤ 1099511627776) :
    Calls Tryz.prog 26 #[ptr l, iv] w (AppPost w l d S SD (L.append D its)) := by
  obtain ⟨ie, hei, hez0, hez1, hez2⟩ := info_parts Tryz.infoEntry
  obtain ⟨ist, hsi, hst0, hst1, hst2⟩ := info_parts Tryz.infoStr
  obtain ⟨hil, ad, cap, rfl, hic⟩ := hit
  have HL := hid h
  have HD := hid hd
  obtain ⟨ms, sv, h, hS⟩ := h
  obtain ⟨c0, c1, c2, c3, c4, c5, c6⟩ := h.cells
  rw [he] at c6
  have hpos : 0 < its.length := List.length_pos_iff.2 hne
  have hnx := hwl.next
  have hllt := h.hdr.lt
  have HIC := hid hic
  have HTX := hid htx
  have HREP := hid h
  have HFOOT := hid hS
  have HNE := hid hne
  have HE := hid he
  clear hic htx hS h hd hne
  have hz0 : ((its.length : Int) == 0) = false := beq_eq_false_iff_ne.2 (by omega)
  have hz1 : decide ((its.length : Int) = 0) = false := decide_eq_false (by omega)
  unfold ptr
  go_enter Tryz.func26, Tryz.ntmps26
  go_upto_block 1 with fail
  go_cut [6, 7, 8] (fun ve vt nx wx => AppRel w.heap.size w L.next its (.int .i64 its.length) ve vt nx wx)
  case first =>
    --<
    go_wp2_with fail
    go_loopw [43, 6, 7, 8] (fun c ve vt nx wr => AppRel w.heap.size w L.next its c ve vt nx wr) (fun c _ _ _ _ => its.length - (intOf c).toNat)
    case atStart =>
      exact ⟨0, [], L.next, _, _, by omega, rfl, rfl, rfl, rfl, rfl, rfl, by simp, hnx.1, hnx.2, World.ownsRow_nil _ _ _ _, World.ownsRow_nil _ _ _ _, Below.refl _ _⟩
    case round =>
      obtain ⟨k, acc, n, v1, v2, hk, rfl, rfl, rfl, rfl, hal, hlay, hok, hn0, hn1, ho1, ho2, hb⟩ := hrel
      by_cases hlt : k < its.length
      · obtain ⟨x, hx⟩ : ∃ x, its[k]? = some x := ⟨_, List.getElem?_eq_getElem hlt⟩
        have hmem : x ∈ its := List.mem_of_getElem? hx
        have htxt := HTX.out x hmem
        obtain ⟨hi0, hi1⟩ := itemCells_at its k x hx
        obtain ⟨g, hg, k0⟩ := HIC.out _ _ hi0
        obtain ⟨g', hg', k1⟩ := HIC.out _ _ hi1
        rw [hg] at hg'
        simp only [Option.some.injEq, Addr.mk.injEq, and_true] at hg'
        subst hg' hg
        have hglt : g < w.heap.size := World.block_lt_of_cell? w _ k0
        have q0 : wr.cell? ⟨g, k * 2, none⟩ = some (.int .i64 x.n) := (hb.cell (p := ⟨g, k * 2, none⟩) hglt).trans k0
        have q1 : wr.cell? ⟨g, k * 2 + 1, none⟩ = some (.string (bs x.text)) := (hb.cell (p := ⟨g, k * 2 + 1, none⟩) hglt).trans k1
        have hdrop : its.drop k = x :: its.drop (k + 1) := by
          rw [List.drop_eq_getElem_cons hlt]
          rw [List.getElem?_eq_getElem hlt] at hx
          rw [Option.some.inj hx]
        rw [hdrop, layAll] at hlay
        have HLAY := hid hlay
        have HOK := hid hok
        have HAL := hid hal
        have hk0 : (0 : Int) ≤ (k : Int) := by omega
        have hk1 : (k : Int) < (its.length : Int) := by omega
        clear hlay hok hal hdrop hi0 hi1 k0 k1 hx
        go_wp2_with fail
        by_cases hx : (Ent.mk n x.n x.text).ok
        · have hx2 := hx
          obtain ⟨_, _, hx3, hx4, hx5⟩ := hx2
          simp only at hx3 hx4 hx5
          have HX := hid hx
          refine (lay_ok (Ent.mk n x.n x.text) _ hx).mono ?_
          rintro e w1 ⟨rfl, hb1⟩
          have hbx : Blk w1 wr.heap.size #[.int .i64 x.n, .string (bs x.text)] 58 := ((Blk.new wr _ _).alloc _).below' hb1
          have hbe : Blk w1 (wr.heap.size + 1) #[.int .i64 n, .int .i64 x.n, .string (bs x.text)] 37 := by
            have h := (Blk.new (wr.alloc (.cells #[.int .i64 x.n, .string (bs x.text)] 58)) #[.int .i64 n, .int .i64 x.n, .string (bs x.text)] 37).below' hb1
            simpa using h
          have ho1' : w1.ownsRow w.heap.size 37 3 v1 k (entCells acc) := own_bel ((ho1.alloc _).alloc _) hb1
          have ho2' : w1.ownsRow w.heap.size 9 1 v2 k (layCells acc) := own_bel ((ho2.alloc _).alloc _) hb1
          have hsz1 := hb1.size
          have hszb := hb.size
          simp at hsz1
          have hbw : Below w.heap.size w w1 := (bel_alloc (bel_alloc hb (.cells #[.int .i64 x.n, .string (bs x.text)] 58)) (.cells #[.int .i64 n, .int .i64 x.n, .string (bs x.text)] 37)).trans (hb1.mono (by simp; omega))
          obtain ⟨e0, e1, e2, _, _, _⟩ := hbe.c3
          have x0 := hbx.cell (i := 0) (v := .int .i64 x.n) rfl
          have x1 := hbx.cell (i := 1) (v := .string (bs x.text)) rfl
          have hv1 : v1.ownBlock ≠ some wr.heap.size := fun e => by have := (ho1.lt _ e).2; omega
          have hv2 : v2.ownBlock ≠ some wr.heap.size := fun e => by have := (ho2.lt _ e).2; omega
          have HV1 := hid hv1
          have HV2 := hid hv2
          have HO1 := hid ho1'
          have HO2 := hid ho2'
          have HBE := hid hbe
          have HBX := hid hbx
          clear ho1 ho2 ho1' ho2' hbe hbx hb1 hx q0 q1 hv1 hv2
          by_cases hmax : 1099511627776 - n < x.n
          · have HF : Hid (layAll L.next its [] = (6, [], 0)) := hid (by rw [HLAY.out, if_pos HX.out, if_pos hmax])
            go_wp2_with fail
            go_ret2
            rw [PLog.append_err HNE.out HE.out (by rw [HF.out]; decide), HF.out]
            exact ⟨rfl, .of_below HL.out HD.out hbw⟩
          · have HF : Hid (layAll L.next its [] = layAll (n + x.n) (its.drop (k + 1)) (acc ++ [⟨n, x.n, x.text⟩])) := hid (by rw [HLAY.out, if_pos HX.out, if_neg hmax])
            go_wp2_with (first
              | (at_builtin; refine wpList_append_own _ rfl _ _ 25 rfl w.heap.size 37 ie (.agg #[.int .i64 0, .int .i64 0, .string ⟨#[]⟩]) 3 32 Tryz.underlying25 hei hez0 hez1 hez2 rfl (by decide) _ _ _ rfl (HO1.out.alloc _) ⟨w1.heap.size, 0, none⟩ 1 1 [.int .i64 n, .int .i64 x.n, .string (bs x.text)] rfl rfl (cells_new _ _ _) (by simp [Value.oneCell']) (by unfold maxLen; omega) (by omega) (by simp; omega) ?_))
            intro v3 w2 hown3 hgrow _
            have hrow2 : w2.ownsRow w.heap.size 9 1 v2 k (layCells acc) := (HO2.out.alloc (.cells #[.int .i64 n, .int .i64 x.n, .string (bs x.text)] 37)).kept hgrow (rows_apart HO2.out HO1.out (by decide))
            have hbx2 := (HBX.out.alloc (.cells #[.int .i64 n, .int .i64 x.n, .string (bs x.text)] 37)).grown hgrow HV1.out
            have hsz2 := hgrow.size
            simp at hsz2
            have hbw2 : Below w.heap.size w w2 := bel_append (bel_alloc hbw (.cells #[.int .i64 n, .int .i64 x.n, .string (bs x.text)] 37)) (HO1.out.alloc _) (by simp; omega) hgrow
            have HO3 := hid hown3
            have HR2 := hid hrow2
            have HX2 := hid hbx2
            clear hown3 hrow2 hbx2 hgrow x0 x1 e0 e1 e2
            go_wp2_with (first
              | (at_builtin; refine wpList_append_own _ rfl _ _ 114 rfl w.heap.size 9 ist (.string ⟨#[]⟩) 1 16 Tryz.underlying114 hsi hst0 hst1 hst2 rfl (by decide) _ _ _ rfl (HR2.out.alloc _) ⟨w2.heap.size, 0, none⟩ 1 1 [.string (bs (Ent.mk n x.n x.text).lay)] rfl rfl (cells_new _ _ _) (by simp [Value.oneCell']) (by unfold maxLen; omega) (by omega) (by simp; omega) ?_))
            intro v4 w3 hown4 hgrow4 _
            have hrow3 : w3.ownsRow w.heap.size 37 3 v3 (k + 1) (entCells acc ++ [.int .i64 n, .int .i64 x.n, .string (bs x.text)]) := (HO3.out.alloc (.cells #[.string (bs (Ent.mk n x.n x.text).lay)] 9)).kept hgrow4 (rows_apart HO3.out HR2.out (by decide))
            have hbx3 := (HX2.out.alloc (.cells #[.string (bs (Ent.mk n x.n x.text).lay)] 9)).grown hgrow4 HV2.out
            have hbw3 : Below w.heap.size w w3 := bel_append (bel_alloc hbw2 (.cells #[.string (bs (Ent.mk n x.n x.text).lay)] 9)) (HR2.out.alloc _) (by simp; omega) hgrow4
            have x0 := hbx3.cell (i := 0) (v := .int .i64 x.n) rfl
            have HO4 := hid hown4
            have HR3 := hid hrow3
            clear hown4 hrow3 hbx3 hgrow4
            go_wp2_with fail
            go_roundw
            case rel =>
              refine ⟨k + 1, acc ++ [⟨n, x.n, x.text⟩], n + x.n, v3, v4, by omega, by go_num, rfl, rfl, rfl, by simp [HAL.out], HF.out, ?_, by omega, by omega, ?_, ?_, hbw3⟩
              · intro e he
                rcases List.mem_append.1 he with h | h
                · exact HOK.out e h
                · simp at h; rw [h]; exact HX.out
              · have : entCells (acc ++ [(⟨n, x.n, x.text⟩ : Ent)]) = entCells acc ++ [.int .i64 n, .int .i64 x.n, .string (bs x.text)] := by unfold entCells; rw [List.flatMap_append]; rfl
                rw [this]; exact HR3.out
              · have : layCells (acc ++ [(⟨n, x.n, x.text⟩ : Ent)]) = layCells acc ++ [.string (bs (Ent.mk n x.n x.text).lay)] := by unfold layCells; rw [List.map_append]; rfl
                rw [this]; exact HO4.out
            case measure => simp [intOf]; omega
        · have HF : Hid (layAll L.next its [] = (1, [], 0)) := hid (by rw [HLAY.out, if_neg hx])
          refine (lay_bad (Ent.mk n x.n x.text) _ hx).mono ?_
          rintro e w1 ⟨rfl, hb1⟩
          have hszb := hb.size
          have hbw : Below w.heap.size w w1 := (bel_alloc (bel_alloc hb (.cells #[.int .i64 x.n, .string (bs x.text)] 58)) (.cells #[.int .i64 n, .int .i64 x.n, .string (bs x.text)] 37)).trans (hb1.mono (by simp; omega))
          clear hx
          go_wp2_with fail
          go_ret2
          rw [PLog.append_err HNE.out HE.out (by rw [HF.out]; decide), HF.out]
          exact ⟨rfl, .of_below HL.out HD.out hbw⟩
      · have hkn : k = its.length := by omega
        have HREL := hid (show AppRel w.heap.size w L.next its (.int .i64 its.length) v1 v2 (.int .i64 n) wr from ⟨k, acc, n, v1, v2, hk, by rw [hkn], rfl, rfl, rfl, hal, hlay, hok, hn0, hn1, ho1, ho2, hb⟩)
        have HKN := hid hkn
        clear hal hlay hok ho1 ho2 hkn
        go_wp2_with fail
        go_meet
        exact HREL.out
    -->
  case rest =>
    rename World => wd
    obtain ⟨k, acc, n, v1, v2, hk, hkc, rfl, rfl, rfl, hal, hlay, hok, hn0, hn1, ho1, ho2, hb⟩ := hcut
    obtain ⟨eb, ecap, rfl⟩ := Joins.ownsRow_form ho1 (by simp only [Value.int.injEq, true_and] at hkc; omega)
    obtain ⟨tb, tcap, rfl⟩ := Joins.ownsRow_form ho2 (by simp only [Value.int.injEq, true_and] at hkc; omega)
    have hkl : k = its.length := by simp only [Value.int.injEq, true_and] at hkc; omega
    subst hkl
    rw [List.drop_length, layAll] at hlay
    have HAPP := hid (PLog.append_ok (D := D) HNE.out HE.out hlay)
    have HOK := hid hok
    have HAL := hid hal
    have HO1 := hid ho1
    have HO2 := hid ho2
    clear hlay hok hal ho1 ho2 hkc hk
    have hszw := hb.size
    have HB := hid hb
    have hrep := HREP.out.fr (Fr.of_below (S := fun _ => False) hb) (fun _ _ h => h)
    have hdc := HD.out.below hb
    obtain ⟨p0, p1, p2, p3, p4, p5, p6⟩ := hrep.cells
    obtain ⟨ad2, cap2, hsv, _⟩ := hrep.form
    have hcnt2 := hwl.count
    have HREPD := hid hrep
    have HDC := hid hdc
    clear hrep hdc hb c0 c1 c2 c3 c4 c5 c6
    go_upto_region 20 with fail
    go_wp2_with fail
    refine (active_any HREPD.out hcnt2).mono ?_
    rintro e w2 ⟨⟨p, rfl, hp⟩, rfl⟩
    have HP := hid hp
    clear hp
    go_upto_if 81 with fail
    go_cut [14] (fun xv wx => ∃ (L1 : PLog) (D1 : PDisk) (S1 SD1 : Nat → Prop) (xb xo : Nat) (s : PSeg) (before : List PSeg) (ms1 : List Value) (sv1 : Value), xv = .pointer (some ⟨xb, xo, none⟩) ∧ App2 w l d S SD L D N its acc n L1 D1 S1 SD1 xb xo s before ms1 sv1 wx ∧ L1.name = L.name ∧
      wx.ownsRow w.heap.size 37 3 (.slice (some ⟨eb, 0, none⟩) its.length ecap) its.length (entCells acc) ∧ wx.ownsRow w.heap.size 9 1 (.slice (some ⟨tb, 0, none⟩) its.length tcap) its.length (layCells acc))
    case first =>
      --<
      rcases HP.out with ⟨rfl, hact⟩ | ⟨g, cap3, a, x, rfl, hsv3, hs, hx, hact⟩
      · have HACT := hid hact
        clear hact
        cases hsg : L.segs with
        | nil =>
          have HSG := hid hsg
          have hln : L.segs.length = 0 := by rw [hsg]; rfl
          have hnz : L.next = L.next := rfl
          subst hsv
          rw [hln] at p2
          clear hsg hln hnz
          go_wp2_with fail
          go_meet
          have hbx := Blk.new wd #[.int .i64 L.next, .int .i64 0, .int .i64 0, .slice none 0 0] 99
          have hba := (Below.refl wd.heap.size wd).alloc (Nat.le_refl _) (.cells #[.int .i64 L.next, .int .i64 0, .int .i64 0, .slice none 0 0] 99)
          refine ⟨L, D, S, SD, wd.heap.size, 0, ⟨L.next, 0, 0, []⟩, L.segs, ms, _, rfl, ⟨HDC.out.below hba, hw, hwl, he, ?_, fun k hk => .inl hk, fun k hk => .inl hk, ?_, hnx, hbx.cell rfl, ⟨_, _, hbx⟩, HREPD.out.fr (Fr.of_below (S := fun _ => False) hba) (fun _ _ h => h), HFOOT.out, .inr ⟨rfl, HACT.out, rfl, rfl, hbx, ?_⟩⟩, rfl, HO1.out.alloc _, HO2.out.alloc _⟩
          · exact ((Fr.of_below HB.out).alloc _)
          · rw [HAPP.out]
            unfold PLog.appendE
            rw [HACT.out]
            simp only
            rw [if_pos HSG.out, HSG.out]
          · intro hs
            have := HL.out.lt hs
            omega
        | cons y r =>
          have HSG := hid hsg
          have hln : 0 < L.segs.length := by rw [hsg]; simp
          subst hsv
          clear hsg
          go_wp2_with fail
          refine (logSync_any (⟨_, _, HREPD.out, HFOOT.out⟩ : LogAt wd l d S L) HDC.out hw hwl).mono ?_
          rintro e w2 ⟨rfl, hto⟩
          have HTO := hid hto
          obtain ⟨S1, SD1, hl1, hd1, hf1, hs1, hsd1⟩ := hto
          have HL1 := hid hl1
          obtain ⟨ms1, sv1, hr1, hS1⟩ := hl1
          obtain ⟨q0, q1, q2, q3, q4, q5, q6⟩ := hr1.cells
          have hsz2 := hf1.size
          obtain ⟨g1, g2, g3⟩ := L.sync_next D
          have g4 := L.sync_err D
          have HAPP2 : Hid (L.appendE D acc n = if (L.sync D).2.2 ≠ 0 then ((L.sync D).1, (L.sync D).2.1, 0, (L.sync D).2.2) else (L.sync D).1.put (L.sync D).2.1 ⟨L.next, 0, 0, []⟩ L.segs acc n) := by
            refine hid ?_
            unfold PLog.appendE
            rw [HACT.out]
            simp only
            rw [if_neg (by rw [HSG.out]; simp)]
          have hdw := PLog.sync_disk (L := L) hw
          have hlw := hwl.sync D
          have hact2 : (L.sync D).1.act = none := by
            have := HACT.out
            unfold PLog.act at this ⊢
            rw [g2]; exact this
          generalize (L.sync D).1 = L1 at *
          generalize hee : (L.sync D).2.2 = e2 at *
          generalize (L.sync D).2.1 = D1 at *
          have HG := hid (And.intro g1 (And.intro g2 (And.intro g3 g4)))
          have HHH := hid (And.intro hd1 (And.intro hf1 (And.intro hs1 hsd1)))
          have HHS := hid (And.intro hS1 hr1)
          have HA2 := hid hact2
          have HEE := hid g4
          clear g2 g3 g4 hd1 hf1 hs1 hsd1 hact2 hS1 hr1 hee
          by_cases h0 : e2 = 0
          · have hz : (e2 == 0) = true := by simpa using h0
            have hz2 : (e2 != 0) = false := by simpa using h0
            rw [g1] at q4
            have H0 := hid h0
            clear h0
            go_wp2_with fail
            go_meet
            obtain ⟨a1, a2, a3, a4⟩ := HHH.out
            obtain ⟨b1, b2⟩ := HHS.out
            obtain ⟨c1, c2, c3, c4⟩ := HG.out
            have hlA : LogAt wd l d S L := ⟨_, _, HREPD.out, HFOOT.out⟩
            have ho1 := row_fr HO1.out a2 (fun j hj e => e.elim (row_log HO1.out hlA (by decide) (by decide) (by decide) j hj) (row_disk HO1.out HDC.out (by decide) (by decide) j hj))
            have ho2 := row_fr HO2.out a2 (fun j hj e => e.elim (row_log HO2.out hlA (by decide) (by decide) (by decide) j hj) (row_disk HO2.out HDC.out (by decide) (by decide) j hj))
            have hbx := Blk.new w2 #[.int .i64 L.next, .int .i64 0, .int .i64 0, .slice none 0 0] 99
            have hba := (Below.refl w2.heap.size w2).alloc (Nat.le_refl _) (.cells #[.int .i64 L.next, .int .i64 0, .int .i64 0, .slice none 0 0] 99)
            refine ⟨L1, D1, S1, SD1, w2.heap.size, 0, ⟨L.next, 0, 0, []⟩, L.segs, ms1, sv1, rfl, ⟨a1.below hba, hdw, hlw, c4.trans H0.out, ((Fr.of_below HB.out).trans a2).alloc _, fun k hk => (a3 k hk).imp id (by omega), fun k hk => (a4 k hk).imp id (by omega), ?_, hnx, hbx.cell rfl, ⟨_, _, hbx⟩, b2.fr (Fr.of_below (S := fun _ => False) hba) (fun _ _ h => h), b1, .inr ⟨c2.symm, HA2.out, by rw [c1], rfl, by rw [c1]; exact hbx, ?_⟩⟩, c3, ho1.alloc _, ho2.alloc _⟩
            · rw [HAPP.out, HAPP2.out, if_neg (fun h => h H0.out)]
            · intro hs
              have := HL1.out.lt hs
              omega
          · have hz : (e2 == 0) = false := by simpa using h0
            have hz2 : (e2 != 0) = true := by simpa using h0
            go_wp2_with fail
            go_ret2
            rw [HAPP.out, HAPP2.out, if_pos h0]
            obtain ⟨a1, a2, a3, a4⟩ := HHH.out
            refine ⟨rfl, S1, SD1, HL1.out, a1, (Fr.of_below HB.out).trans a2, fun k hk => (a3 k hk).imp id (by omega), fun k hk => (a4 k hk).imp id (by omega)⟩
      · have HACT := hid hact
        have HSS := hid hs
        have HSV := hid hsv3
        clear hact hs hsv hsv3
        have HXX := hid hx
        clear hx
        go_wp2_with fail
        go_meet
        have hnn : L.segs.length = a.length + 1 := by rw [HSS.out]; simp
        have hv : ∃ v, ms[a.length]? = some v := ⟨_, List.getElem?_eq_getElem (by rw [HREPD.out.len]; omega)⟩
        obtain ⟨v, hv⟩ := hv
        obtain ⟨ad3, cap4, he3, hat⟩ := HREPD.out.form
        obtain ⟨g', hg', b0, _⟩ := hat a.length x v (by rw [HSS.out]; simp) hv
        rw [HSV.out] at he3
        injection he3 with e1 e2 e3
        subst e1
        simp only [Option.some.injEq, Addr.mk.injEq, and_true] at hg'
        subst hg'
        have hsb : SegBlk wd g := by
          obtain ⟨c, fz, hc⟩ := Lib.ownsRow_kind HREPD.out.segs g (by rw [HSV.out]; rfl)
          exact ⟨c, fz, hc⟩
        refine ⟨L, D, S, SD, g, a.length * 4, x, a, ms, sv, rfl, ⟨HDC.out, hw, hwl, he, Fr.of_below HB.out, fun k hk => .inl hk, fun k hk => .inl hk, ?_, hwl.base x (by rw [HSS.out]; simp), b0, hsb, HREPD.out, HFOOT.out, .inl ⟨cap3, HSV.out, HSS.out, HXX.out, rfl⟩⟩, rfl, HO1.out, HO2.out⟩
        rw [HAPP.out]
        unfold PLog.appendE
        rw [HACT.out]
        simp only
        rw [HSS.out, List.dropLast_concat]
      -->
    case rest =>
      rename World => we
      obtain ⟨L1, D1, S1, SD1, xb, xo, s, before, ms1, sv1, rfl, h2, hnm, ho1, ho2⟩ := hcut
      have H2 := hid h2
      have HO1C := hid ho1
      have HO2C := hid ho2
      obtain ⟨p0, p1, p2, p3, p4, p5, p6⟩ := h2.rep.cells
      have hcx := h2.cell
      have hbase := h2.base
      rw [hnm] at p1
      have hname := hwl.name
      have hllt2 := h2.rep.hdr.lt
      have hxlt : xb < we.heap.size := World.block_lt_of_cell? we _ hcx
      have hdc := h2.disk
      have hnl : ¬ SD1 l := fun hs => LogAt.apart h2.at hdc ((h2.footL l).2 (.inl rfl)) hs
      have hnx1 : ¬ SD1 xb := h2.blk.notDisk hdc
      have hw1 := h2.dwf
      have HDC1 := hid hdc
      have hsl : (segName L.name s.base).length ≤ 1099511627776 := by unfold segName; simp [digs_len]; omega
      have htl : (layText acc).length ≤ 1099511627776 := by have := layText_len acc HOK.out; have := HAL.out; omega
      have hsz1 := h2.fr.size
      clear h2 ho1 ho2 hdc
      go_upto_region 27 with fail
      go_cut [16] (fun s16 wx => s16 = .int .i64 (D1.append (segName L.name s.base) (layText acc)).2 ∧ DiskTo we wx d SD1 (D1.append (segName L.name s.base) (layText acc)).1)
      case first =>
        --<
        go_region_held3 (fun w' => w'.cell? ⟨l, 0, none⟩ = some (.pointer (some ⟨d, 0, none⟩)) ∧ w'.cell? ⟨l, 1, none⟩ = some (.string (bs L.name)) ∧ w'.cell? ⟨xb, xo, none⟩ = some (.int .i64 s.base))
          (go_keep)
          ((first
            | (go_at_call 47; refine (file_any l L.name s.base _ ?_ (by omega) hbase.1 (by omega)).mono ?_; (go_simp); rintro e w2 ⟨rfl, hb2⟩; have d20 : w2.cell? ⟨l, 0, none⟩ = some (.pointer (some ⟨d, 0, none⟩)) := (hb2.cell (by (try simp); omega)).trans (by go_simp); have d21 : w2.cell? ⟨l, 1, none⟩ = some (.string (bs L.name)) := (hb2.cell (by (try simp); omega)).trans (by go_simp); have d22 : w2.cell? ⟨xb, xo, none⟩ = some (.int .i64 s.base) := (hb2.cell (by (try simp); omega)).trans (by go_simp); have hz2 := hb2.size; (try simp at hz2); have HB2 := hid (show Below we.heap.size we w2 from ⟨hb2.os, hb2.tape, hb2.output, hb2.size, hb2.block⟩))
            | (go_at_call 60; refine (join_any acc its.length HAL.out hpos (own_bel HO2C.out HB2.out) HOK.out hcnt).mono ?_; rintro e w3 ⟨rfl, hb3⟩; have d30 : w3.cell? ⟨l, 0, none⟩ = some (.pointer (some ⟨d, 0, none⟩)) := (hb3.cell (by (try simp); omega)).trans (by go_simp); have d31 : w3.cell? ⟨l, 1, none⟩ = some (.string (bs L.name)) := (hb3.cell (by (try simp); omega)).trans (by go_simp); have d32 : w3.cell? ⟨xb, xo, none⟩ = some (.int .i64 s.base) := (hb3.cell (by (try simp); omega)).trans (by go_simp); have hz3 := hb3.size; have HB3 := hid (bel_next HB2.out hb3))
            | (go_at_call 59; refine (append_any d SD1 D1 N _ _ _ (HDC1.out.below HB3.out) hw1 hsl htl).mono ?_; rintro e w4 ⟨rfl, hto4⟩; have HTO := hid (DiskTo.after HB3.out hto4); obtain ⟨SD2, hd1, hto, hsd1⟩ := hto4; have d40 : w4.cell? ⟨l, 0, none⟩ = some (.pointer (some ⟨d, 0, none⟩)) := (World.cell?_of_block (hto.block _ (by (try simp); omega) hnl)).trans (by assumption); have d41 : w4.cell? ⟨l, 1, none⟩ = some (.string (bs L.name)) := (World.cell?_of_block (hto.block _ (by (try simp); omega) hnl)).trans (by assumption); have d42 : w4.cell? ⟨xb, xo, none⟩ = some (.int .i64 s.base) := (World.cell?_of_block (hto.block _ (by (try simp); omega) hnx1)).trans (by assumption); have hz4 := hto.size; clear hd1 hto hsd1)))
        go_wp2_with fail
        go_meet
        exact ⟨rfl, HTO.out⟩
        -->
      case rest =>
        obtain ⟨rfl, hto⟩ := hcut
        have HPUT : Hid (L1.put D1 s before acc n = if (D1.append (segName L.name s.base) (layText acc)).2 = 5 then (L1, (D1.append (segName L.name s.base) (layText acc)).1, 0, 5) else if (D1.append (segName L.name s.base) (layText acc)).2 ≠ 0 then ({ L1 with e := (D1.append (segName L.name s.base) (layText acc)).2 }, (D1.append (segName L.name s.base) (layText acc)).1, 0, (D1.append (segName L.name s.base) (layText acc)).2)
            else ({ L1 with e := 0, segs := before ++ [s.tookAll acc], next := n }, (D1.append (segName L.name s.base) (layText acc)).1, headBase acc, 0)) := hid (by unfold PLog.put; rw [hnm])
        generalize (D1.append (segName L.name s.base) (layText acc)).2 = e2 at *
        generalize (D1.append (segName L.name s.base) (layText acc)).1 = D2 at *
        have HTO := hid hto
        obtain ⟨_, _, hrep3, _⟩ := H2.out.after hto
        obtain ⟨r0, r1, r2, r3, r4, r5, r6⟩ := hrep3.cells
        have t6 := hrep3.hdr.free 6
        have hllt3 := hrep3.hdr.lt
        clear hto hrep3 p0 p1 p2 p3 p4 p5 p6
        by_cases h5 : e2 = 5
        · have hz5 : (e2 == 5) = true := by simpa using h5
          have H5 := hid h5
          clear h5
          --<
          go_wp2_with fail
          go_ret2
          rw [H2.out.app, HPUT.out, if_pos H5.out]
          exact ⟨by rw [H5.out]; rfl, H2.out.to HTO.out⟩
          -->
        · have hz5 : (e2 == 5) = false := by simpa using h5
          have H5 := hid h5
          clear h5
          by_cases h0 : e2 = 0
          · subst h0
            go_upto_region 33 with fail
            obtain ⟨hr4, hlt4, SD4, hd4, hf4, hs4, hn4, hg4⟩ := H2.out.noted HTO.out 0
            have HPUT2 : Hid (L1.put D1 s before acc n = ({ L1 with e := 0, segs := before ++ [s.tookAll acc], next := n }, D2, headBase acc, 0)) := hid (by rw [HPUT.out, if_neg (by decide), if_neg (by decide)])
            generalize hW4 : wc.setCell ⟨l, 6, none⟩ (.int .i64 0) = W4 at *
            have HR4 := hid hr4
            have HD4 := hid hd4
            have HF4 := hid (And.intro hf4 (And.intro hs4 hn4))
            have HG4 := hid hg4
            have HW4 := hid hW4
            clear hr4 hlt4 hd4 hf4 hs4 hn4 hg4 hW4 r0 r1 r2 r3 r4 r5 r6 t6 hcx hsl htl H5 hz5
            have hcnt1 := H2.out.lwf.count
            go_wp2_with fail
            refine (active_any (L := { L1 with e := 0 }) HR4.out hcnt1).mono ?_
            rintro e w2 ⟨⟨p4, rfl, hp4⟩, rfl⟩
            have HP4 := hid hp4
            clear hp4
            go_upto_if 126 with fail
            go_cut [14] (fun xv wx => ∃ (L4 : PLog) (S4 SD4 : Nat → Prop) (sg cap : Nat) (s : PSeg) (a : List PSeg) (ma : List Value) (v : Value), xv = .pointer (some ⟨sg, a.length * 4, none⟩) ∧ App4 w l d S SD L D its acc n L4 D2 S4 SD4 sg cap s a ma v wx ∧
              wx.ownsRow w.heap.size 37 3 (.slice (some ⟨eb, 0, none⟩) its.length ecap) its.length (entCells acc) ∧ wx.ownsRow w.heap.size 9 1 (.slice (some ⟨tb, 0, none⟩) its.length tcap) its.length (layCells acc))
            case first =>
              have hq1 : W4.ownsRow w.heap.size 37 3 (.slice (some ⟨eb, 0, none⟩) its.length ecap) its.length (entCells acc) := row_fr HO1C.out HG4.out (fun j hj e => e.elim (row_disk HO1C.out H2.out.disk (by decide) (by decide) j hj) (fun e => row_log HO1C.out H2.out.at (by decide) (by decide) (by decide) j hj ((H2.out.footL j).2 (.inl e))))
              have hq2 : W4.ownsRow w.heap.size 9 1 (.slice (some ⟨tb, 0, none⟩) its.length tcap) its.length (layCells acc) := row_fr HO2C.out HG4.out (fun j hj e => e.elim (row_disk HO2C.out H2.out.disk (by decide) (by decide) j hj) (fun e => row_log HO2C.out H2.out.at (by decide) (by decide) (by decide) j hj ((H2.out.footL j).2 (.inl e))))
              have HQ1 := hid hq1
              have HQ2 := hid hq2
              clear hq1 hq2
              --<
              rcases H2.out.way with ⟨cap5, hsv5, hs5, hx5, rfl⟩ | ⟨hbf, hact5, hs5, rfl, hbx5, hns5⟩
              · rcases HP4.out with ⟨rfl, hact⟩ | ⟨g, cap6, a6, x6, rfl, hsv6, hs6, hx6, hact⟩
                · exfalso
                  have := PLog.act_of (L := { L1 with e := 0 }) hs5 hx5
                  rw [hact] at this
                  cases this
                · have HS5 := hid (And.intro hsv5 (And.intro hs5 hx5))
                  clear hsv5 hs5 hx5 hsv6 hs6 hx6 hact
                  go_wp2_with fail
                  go_meet
                  obtain ⟨hsv5, hs5, hx5⟩ := HS5.out
                  obtain ⟨hf4, hs4, hn4⟩ := HF4.out
                  subst hsv5
                  obtain ⟨ma, v, hms, hma⟩ := LogRep.ms_split HR4.out (show ({ L1 with e := 0 } : PLog).segs = before ++ [s] from hs5)
                  have hlen : L1.segs.length = before.length + 1 := by rw [hs5]; simp
                  have hrr := HR4.out
                  rw [hlen, hms] at hrr
                  have hmem : s ∈ L1.segs := by rw [hs5]; simp
                  refine ⟨{ L1 with e := 0 }, S1, SD4, xb, cap5, s, before, ma, v, rfl, ⟨HD4.out, hf4, H2.out.foot, hs4, ?_, hrr, ?_, hs5, hma, by omega, ⟨(H2.out.lwf.bytes s hmem).1, by omega⟩, H2.out.lwf.entries s hmem, ?_⟩, HQ1.out, HQ2.out⟩
                  · rw [H2.out.app, HPUT2.out]
                  · intro k; rw [← hms, ← hlen]; exact H2.out.footL k
                  · exact H2.out.lwf.marks s hmem
              · rcases HP4.out with ⟨rfl, hact⟩ | ⟨g, cap6, a6, x6, rfl, hsv6, hs6, hx6, hact⟩
                · obtain ⟨i0, hi, hz0', hz1', hz2'⟩ := info_parts Tryz.infoSeg
                  have hS1l : S1 l := (H2.out.footL l).2 (.inl rfl)
                  have hxl : xb ≠ l := fun e => hns5 (e ▸ hS1l)
                  have hbx : Blk W4 xb #[.int .i64 L1.next, .int .i64 0, .int .i64 0, .slice none 0 0] 99 := hbx5.fr HG4.out (fun e => e.elim hnx1 hxl)
                  have y0 := hbx.cell (i := 0) rfl
                  have y1 := hbx.cell (i := 1) rfl
                  have y2 := hbx.cell (i := 2) rfl
                  have y3 := hbx.cell (i := 3) rfl
                  obtain ⟨_, _, s2, _⟩ := HR4.out.cells
                  obtain ⟨ad7, cap7, hsv7, _⟩ := HR4.out.form
                  have hk7 : ({ L1 with e := 0 } : PLog).segs.length = L1.segs.length := rfl
                  rw [hk7] at hsv7
                  subst hsv7
                  have hl4 := HR4.out.hdr.lt
                  have f2 := HR4.out.hdr.free 2
                  have hx4 := hbx.lt
                  have HHB := hid (And.intro hbf (And.intro hs5 hbx))
                  have HL4 := hid hS1l
                  clear hbf hs5 hbx hbx5 hact hact5 hS1l
                  go_upto_region 34 with fail
                  have HNX : Hid ((W4.drew.alloc (.cells #[.int .i64 L1.next, .int .i64 0, .int .i64 0, .slice none 0 0] 99)).heap[W4.heap.size]? = some (.cells #[.int .i64 L1.next, .int .i64 0, .int .i64 0, .slice none 0 0] 99)) := hid (heap_alloc_new W4.drew (.cells #[.int .i64 L1.next, .int .i64 0, .int .i64 0, .slice none 0 0] 99))
                  have HRX := hid (HR4.out.fr (S := fun _ => False) (((Fr.refl _ W4).drew).alloc (.cells #[.int .i64 L1.next, .int .i64 0, .int .i64 0, .slice none 0 0] 99)) (fun _ _ h => h))
                  go_cut [14] (fun xv wx => xv = .pointer (some ⟨xb, 0, none⟩) ∧ ∃ gg cap8 w3, wx = w3.setCell ⟨l, 2, none⟩ (.slice (some ⟨gg, 0, none⟩) (L1.segs.length + 1) cap8) ∧
                    w3.ownsRow 0 99 4 (.slice (some ⟨gg, 0, none⟩) (L1.segs.length + 1) cap8) (L1.segs.length + 1) (segCells L1.segs ms1 ++ [.int .i64 L1.next, .int .i64 0, .int .i64 0, .slice none 0 0]) ∧
                    (W4.drew.alloc (.cells #[.int .i64 L1.next, .int .i64 0, .int .i64 0, .slice none 0 0] 99)).grownBy w3 (Value.slice ad7 L1.segs.length cap7).ownBlock ∧ ((Value.slice ad7 L1.segs.length cap7).ownBlock = some gg ∨ gg = W4.heap.size + 1))
                  case first =>
                    go_region_law ((refine step_append_lies _ (by rfl) _ _ _ (by rfl) 0 99 i0 _ 4 48 Tryz.underlying95 hi hz0' hz1' hz2' rfl (by omega) (.slice ad7 L1.segs.length cap7) L1.segs.length _ (by rfl) HRX.out.segs ⟨W4.heap.size, 0, none⟩ 1 1 [.int .i64 L1.next, .int .i64 0, .int .i64 0, .slice none 0 0] (by rfl) (by rfl) (World.news_of_block (cs := #[.int .i64 L1.next, .int .i64 0, .int .i64 0, .slice none 0 0]) (t := 99) (fr := (0, 0)) HNX.out) (by simp [Value.oneCell']) (by omega) (by unfold maxLen; omega) (by omega) (Nat.zero_le _) (W4.heap.size + 1) (by simp) ?_; intro gg cap2 w3 hown3 hgrow hat hlt3; have hB3 := hid (HRX.out.hdr.grown hgrow (show (Value.slice ad7 L1.segs.length cap7).ownBlock ≠ some l from fun e => by obtain ⟨c, fz, hc⟩ := Lib.ownsRow_kind HRX.out.segs l e; have h9 := HRX.out.hdr; unfold Blk at h9; rw [h9] at hc; cases hc)); have d3 := hB3.out.cell (i := 2) rfl; have k3 := hB3.out.free 2; have HO3 := hid hown3; have HG3 := hid hgrow; have HA3 := hid hat; clear hown3 hgrow hat))
                    all_goals (go_wp2_with fail; go_meet; exact ⟨rfl, _, _, _, rfl, HO3.out, HG3.out, HA3.out⟩)
                  case rest =>
                    obtain ⟨rfl, gg, cap8, w3, rfl, hown3, hgrow, hat⟩ := hcut
                    have hpush := HRX.out.push hgrow (b := L1.next) hown3 (hat.imp id (fun e => by simp; omega))
                    have hgs : S1 l := HL4.out
                    have hfa : Fr S1 W4 (w3.setCell ⟨l, 2, none⟩ (.slice (some ⟨gg, 0, none⟩) (L1.segs.length + 1) cap8)) := by
                      have ha : Fr S1 W4 (W4.drew.alloc (.cells #[.int .i64 L1.next, .int .i64 0, .int .i64 0, .slice none 0 0] 99)) := ((Fr.refl _ W4).drew).alloc _
                      have hg3 : Fr S1 W4 w3 := ⟨hgrow.os.trans ha.os, hgrow.tape.trans ha.tape, hgrow.output.trans ha.output, Nat.le_trans ha.size hgrow.size, fun j hj hn => (hgrow.block j (Nat.lt_of_lt_of_le hj ha.size) (fun e => hn ((H2.out.footL j).2 (.inr (.inl e.symm))))).trans (ha.block j hj hn)⟩
                      exact Fr.setCell (p := ⟨l, 2, none⟩) hg3 (.inl hgs) _
                    obtain ⟨_, _, s2', _⟩ := hpush.cells
                    have hq1 := row_fr HQ1.out hfa (fun j hj e => row_log HQ1.out (⟨_, _, HR4.out, H2.out.footL⟩ : LogAt W4 l d S1 _) (by decide) (by decide) (by decide) j hj e)
                    have hq2 := row_fr HQ2.out hfa (fun j hj e => row_log HQ2.out (⟨_, _, HR4.out, H2.out.footL⟩ : LogAt W4 l d S1 _) (by decide) (by decide) (by decide) j hj e)
                    generalize hWf : w3.setCell ⟨l, 2, none⟩ (.slice (some ⟨gg, 0, none⟩) (L1.segs.length + 1) cap8) = Wf at *
                    have HPU := hid hpush
                    have HFA := hid hfa
                    have HQA := hid (And.intro hq1 hq2)
                    have HAT := hid hat
                    have hiw : IntKind.i64.wrap (L1.segs.length : Int) = L1.segs.length := IntWalk.i64_in _ (by omega)
                    have hj0 : (0 : Int) ≤ (L1.segs.length : Int) := by omega
                    have hj1 : (L1.segs.length : Int) < (L1.segs.length : Int) + 1 := by omega
                    clear hpush hfa hq1 hq2 hat hgrow hown3 hWf s2 f2 y0 y1 y2 y3
                    go_wp2_with fail
                    go_quiet (fail)
                    go_wp2_with fail
                    go_meet
                    obtain ⟨hbf, hs5, hbx⟩ := HHB.out
                    obtain ⟨hf4, hs4, hn4⟩ := HF4.out
                    have hfd := HFA.out.drewN nq
                    have hrr := HPU.out.fr (S := fun _ => False) ((Fr.refl _ Wf).drewN nq) (fun _ _ h => h)
                    have hf5 : Fr (fun k => S k ∨ SD k) w (Wf.drewN nq) := ⟨hfd.os.trans hf4.os, hfd.tape.trans hf4.tape, hfd.output.trans hf4.output, Nat.le_trans hf4.size hfd.size, fun k hk hn => (hfd.block k (Nat.lt_of_lt_of_le hk hf4.size) (fun e => (H2.out.foot k e).elim (fun e => hn (.inl e)) (by omega))).trans (hf4.block k hk hn)⟩
                    have hsz4 := hf4.size
                    refine ⟨{ L1 with e := 0, segs := L1.segs ++ [⟨L1.next, 0, 0, []⟩] }, footL l (ms1 ++ [.slice none 0 0]) (.slice (some ⟨gg, 0, none⟩) (L1.segs.length + 1) cap8), SD4, gg, cap8, ⟨L1.next, 0, 0, []⟩, L1.segs, ms1, .slice none 0 0, rfl, ⟨HD4.out.fr hfd (fun k hk e => hn4 k hk e), hf5, ?_, hs4, ?_, hrr, fun _ => Iff.rfl, rfl, H2.out.rep.len, hcnt1, by simp, by simp, by simp, by simp⟩, HQA.out.1, HQA.out.2⟩
                    · intro k hk
                      rcases hk with rfl | hk | ⟨v, hv, hk⟩
                      · exact H2.out.foot _ HL4.out
                      · simp only [Value.ownBlock, Option.some.injEq] at hk
                        subst hk
                        rcases HAT.out with e | e
                        · exact H2.out.foot _ ((H2.out.footL gg).2 (.inr (.inl e)))
                        · exact .inr (by omega)
                      · rcases List.mem_append.1 hv with hv | hv
                        · exact H2.out.foot _ ((H2.out.footL k).2 (.inr (.inr ⟨v, hv, hk⟩)))
                        · simp only [List.mem_singleton] at hv
                          subst hv
                          cases hk
                    · rw [H2.out.app, HPUT2.out, hbf, hs5]
                · exfalso
                  have := PLog.act_of (L := L1) hs6 hx6
                  rw [hact5] at this
                  cases this
              -->
            case rest =>
              rename World => W0
              obtain ⟨L4, S4, SD4', sg, cap4, sx, a, ma, v, rfl, h4, ho1, ho2⟩ := hcut
              obtain ⟨cs0, hseg⟩ := LogRep.segAt h4.rep h4.segs h4.len
              have H4 := hid h4
              have hb0 := h4.bytes
              have he0 := h4.entries
              have hm0 := h4.marks.1
              have HM0 := hid h4.marks.2
              have halen := HAL.out
              have hHL4 : LogAt W0 l d S4 L4 := ⟨_, _, h4.rep, h4.footL⟩
              have hz := h4.fr.size
              have HQ1 := hid ho1
              have HQ2 := hid ho2
              have HL4 := hid hHL4
              have HSEG := hid hseg
              have hr1 := HQ1.out
              clear h4 ho1 ho2 hseg hHL4 hr1
              go_wp2_with fail
              go_loopw [152] (fun c wr => TookRel W0 sg (a.length * 4) cs0 sx v acc c wr) (fun c _ => acc.length - (intOf c).toNat)
              case atStart => exact ⟨0, v, cs0, by omega, rfl, HSEG.out, .inl rfl, Fr.refl _ _⟩
              case round =>
                obtain ⟨k, mv, cs, hk, rfl, hsg, hmo, hfr⟩ := hrel
                have hap : ∀ j, (j = sg ∨ v.ownBlock = some j) → S4 j := by
                  rintro j (rfl | e)
                  · exact (H4.out.footL j).2 (.inr (.inl rfl))
                  · exact (H4.out.footL j).2 (.inr (.inr ⟨v, by simp, e⟩))
                have hq1 := row_fr HQ1.out hfr (fun j hj e => row_log HQ1.out HL4.out (by decide) (by decide) (by decide) j hj (hap j e))
                have hq2 := row_fr HQ2.out hfr (fun j hj e => row_log HQ2.out HL4.out (by decide) (by decide) (by decide) j hj (hap j e))
                have hszr := hfr.size
                by_cases hlt : k < acc.length
                · obtain ⟨x, hx⟩ : ∃ x, acc[k]? = some x := ⟨_, List.getElem?_eq_getElem hlt⟩
                  obtain ⟨i0, i1, i2⟩ := entCells_at acc k x hx
                  have c0 : wr.cell? ⟨eb, k * 3, none⟩ = some (.int .i64 x.base) := (hq1.cellAt (k * 3) (by omega)).trans i0
                  have c1 : wr.cell? ⟨eb, k * 3 + 1, none⟩ = some (.int .i64 x.n) := (hq1.cellAt (k * 3 + 1) (by omega)).trans i1
                  have c2 : wr.cell? ⟨eb, k * 3 + 2, none⟩ = some (.string (bs x.text)) := (hq1.cellAt (k * 3 + 2) (by omega)).trans i2
                  have t0 : wr.cell? ⟨tb, k, none⟩ = some (.string (bs x.lay)) := by
                    rw [hq2.cellAt k (by omega)]
                    unfold layCells
                    rw [List.getElem?_map, hx]; rfl
                  have htblt : tb < wr.heap.size := World.block_lt_of_cell? wr _ t0
                  have hxok := HOK.out x (List.mem_of_getElem? hx)
                  have hxl := Ent.lay_len x hxok
                  have hnum := tookAll_num sx (acc.take k) (fun e he => HOK.out e (List.mem_of_mem_take he)) hb0.1 HM0.out
                  rw [List.length_take, Nat.min_eq_left (by omega)] at hnum
                  have hstep : sx.tookAll (acc.take (k + 1)) = (sx.tookAll (acc.take k)).took x.base x.lay.length := by
                    rw [List.take_add_one, hx]; exact tookAll_snoc _ _ _
                  obtain ⟨n1, n2, n3, n4, n5, n6⟩ := hnum
                  have HN6 := hid n6
                  have HST := hid hstep
                  have HSG := hid hsg
                  have HMO := hid hmo
                  have HFR := hid hfr
                  have HXK := hid hxok
                  have hsz2 : (bs x.lay).size = x.lay.length := rfl
                  have HQ2R := hid hq2
                  clear hq1 hq2 hx i0 i1 i2 hxok n1 n6 hstep hsg hmo hfr hap
                  go_wp2_with fail
                  have hbox := Blk.new wr #[.int .i64 x.base, .int .i64 x.n, .string (bs x.text)] 37
                  obtain ⟨z0, z1, z2, _⟩ := hbox.c3
                  have HBOX := hid hbox
                  have hnbox : ¬ (wr.heap.size = sg ∨ mv.ownBlock = some wr.heap.size) := by
                    rintro (e | e)
                    · have := HSG.out.blk.lt; omega
                    · have := (HSG.out.marks.lt _ e).2; omega
                  have hntb : ¬ (tb = sg ∨ mv.ownBlock = some tb) := by
                    have hkt : ∃ c fz, wr.heap[tb]? = some (.cells c 9 fz) := Lib.ownsRow_kind HQ2R.out tb rfl
                    obtain ⟨c, fz, hc⟩ := hkt
                    rintro (e | e)
                    · have := HSG.out.blk
                      unfold Blk at this
                      rw [← e, hc] at this
                      cases this
                    · obtain ⟨c', fz', hc'⟩ := Lib.ownsRow_kind HSG.out.marks tb e
                      rw [hc] at hc'
                      cases hc'
                  clear hbox
                  go_region_held3 (fun w' => w'.cell? ⟨wr.heap.size, 0, none⟩ = some (.int .i64 x.base) ∧ w'.cell? ⟨wr.heap.size, 1, none⟩ = some (.int .i64 x.n) ∧ w'.cell? ⟨wr.heap.size, 2, none⟩ = some (.string (bs x.text)) ∧ w'.cell? ⟨tb, k, none⟩ = some (.string (bs x.lay)))
                    (go_keep)
                    ((go_at_call 61; refine (took_seg (HSG.out.fr (S := fun _ => False) (((Fr.refl _ wr).alloc _).drew) (fun h => h) (fun _ _ h => h)) x.base x.n _ _ (by omega) (by omega) (by omega) (by omega) (by omega) (by omega) (fun y hy => by have := HN6.out y hy; omega)).mono ?_; rintro e w2 ⟨rfl, mv2, cs2, hs2, ho2, hf2⟩; have HS2 := hid hs2; have HO2 := hid ho2; have HF2 := hid hf2; have e0 : w2.cell? ⟨wr.heap.size, 0, none⟩ = some (.int .i64 x.base) := (World.cell?_of_block (hf2.block _ (by simp) hnbox)).trans (by go_simp); have e1 : w2.cell? ⟨wr.heap.size, 1, none⟩ = some (.int .i64 x.n) := (World.cell?_of_block (hf2.block _ (by simp) hnbox)).trans (by go_simp); have e2 : w2.cell? ⟨wr.heap.size, 2, none⟩ = some (.string (bs x.text)) := (World.cell?_of_block (hf2.block _ (by simp) hnbox)).trans (by go_simp); have e3 : w2.cell? ⟨tb, k, none⟩ = some (.string (bs x.lay)) := (World.cell?_of_block (hf2.block _ (by simp; omega) hntb)).trans (by go_simp); clear hs2 ho2 hf2))
                  go_wp2_with fail
                  go_roundw
                  case rel =>
                    refine ⟨k + 1, mv2, cs2, by omega, by go_num, ?_, ?_, ?_⟩
                    · rw [HST.out]; exact HS2.out
                    · rcases HO2.out with e | ⟨b, e, hb⟩
                      · rw [e]; exact HMO.out
                      · exact .inr ⟨b, e, by simp at hb; omega⟩
                    · have hfx := ((HFR.out.alloc (.cells #[.int .i64 x.base, .int .i64 x.n, .string (bs x.text)] 37)).drew)
                      have hf2 := HF2.out
                      refine ⟨hf2.os.trans hfx.os, hf2.tape.trans hfx.tape, hf2.output.trans hfx.output, Nat.le_trans hfx.size hf2.size, fun j hj hn => (hf2.block j (Nat.lt_of_lt_of_le hj hfx.size) (fun e => ?_)).trans (hfx.block j hj hn)⟩
                      rcases e with e | e
                      · exact hn (.inl e)
                      · rcases HMO.out with e2 | ⟨b, e2, hb⟩
                        · exact hn (.inr (e2.symm.trans e))
                        · rw [e] at e2
                          injection e2 with e2
                          omega
                  case measure => simp [intOf]; omega
                · obtain rfl : k = its.length := by omega
                  rw [List.take_of_length_le (by omega)] at hsg
                  have hrt := LogRep.retake H4.out.rep H4.out.segs H4.out.len HSEG.out hsg hmo hfr
                  obtain ⟨q0, q1, q2, q3, q4, q5, q6⟩ := hrt.cells
                  have k4 := hrt.hdr.free 4
                  have hl4 := hrt.hdr.lt
                  obtain ⟨e0, er, hacc⟩ : ∃ e0 er, acc = e0 :: er := by
                    cases hc : acc with
                    | nil => rw [hc] at halen; simp at halen; omega
                    | cons e0 er => exact ⟨e0, er, rfl⟩
                  have hi0 := (entCells_at acc 0 e0 (by rw [hacc]; rfl)).1
                  have c0 : wr.cell? ⟨eb, 0, none⟩ = some (.int .i64 e0.base) := (hq1.cellAt 0 (by omega)).trans hi0
                  have hhb : headBase acc = e0.base := by rw [hacc]; rfl
                  have hebl : eb ≠ l := by
                    rintro rfl
                    obtain ⟨c, fz, hc⟩ := Lib.ownsRow_kind hq1 _ rfl
                    have := hrt.hdr
                    unfold Blk at this
                    rw [this] at hc
                    cases hc
                  have hil0 : (0 : Int) < (its.length : Int) := by omega
                  have hb5 := hrt.hdr.set 4 (.int .i64 n)
                  have hf5 : Fr (fun j => j = l) wr (wr.setCell ⟨l, 4, none⟩ (.int .i64 n)) := Fr.setCell (S := fun j => j = l) (p := ⟨l, 4, none⟩) (Fr.refl _ _) (.inl rfl) _
                  have hr5 := hrt.set hf5 hb5
                  have HR5 := hid hr5
                  have HFR := hid hfr
                  have HF5 := hid hf5
                  have HAP := hid hap
                  have HMO := hid hmo
                  have HHB := hid hhb
                  clear hrt hfr hap hmo hhb hacc hq1 hq2 hsg hi0 hb5 hf5 hr5
                  go_wp2_with fail
                  go_ret2
                  have hapD : ∀ j, SD4' j → ¬ S4 j := fun j hj hs => LogAt.apart HL4.out H4.out.disk hs hj
                  have hd5 : DiskAt (wr.setCell ⟨l, 4, none⟩ (.int .i64 n)) d SD4' D2 := (H4.out.disk.fr HFR.out (fun j hj e => hapD j hj (HAP.out j e))).fr HF5.out (fun j hj e => hapD j hj ((H4.out.footL j).2 (.inl e)))
                  have hff : Fr (fun j => S j ∨ SD j) w wr := by
                    have h1 := H4.out.fr
                    have h2 := HFR.out
                    exact ⟨h2.os.trans h1.os, h2.tape.trans h1.tape, h2.output.trans h1.output, Nat.le_trans h1.size h2.size, fun j hj hn => (h2.block j (Nat.lt_of_lt_of_le hj h1.size) (fun e => (H4.out.foot j (HAP.out j e)).elim (fun e => hn (.inl e)) (by omega))).trans (h1.block j hj hn)⟩
                  have hlS : S4 l := (H4.out.footL l).2 (.inl rfl)
                  rw [H4.out.app, HHB.out]
                  refine ⟨rfl, footL l (ma ++ [mv]) (.slice (some ⟨sg, 0, none⟩) (a.length + 1) cap4), SD4', ⟨_, _, HR5.out, fun _ => Iff.rfl⟩, hd5, Fr.setCell (p := ⟨l, 4, none⟩) hff ((H4.out.foot l hlS).imp .inl id) _, ?_, H4.out.footD⟩
                  intro j hj
                  rcases hj with rfl | hj | ⟨u, hu, hj⟩
                  · exact H4.out.foot _ hlS
                  · exact H4.out.foot j ((H4.out.footL j).2 (.inr (.inl hj)))
                  · rcases List.mem_append.1 hu with hu | hu
                    · exact H4.out.foot j ((H4.out.footL j).2 (.inr (.inr ⟨u, by simp [hu], hj⟩)))
                    · simp only [List.mem_singleton] at hu
                      subst hu
                      rcases HMO.out with e | ⟨b, e, hb⟩
                      · exact H4.out.foot j ((H4.out.footL j).2 (.inr (.inr ⟨v, by simp, e.symm.trans hj⟩)))
                      · rw [hj] at e
                        injection e with e
                        exact .inr (by omega)
          · have hzn : (e2 == 0) = false := by simpa using h0
            have hzn2 : (e2 != 0) = true := by simpa using h0
            --<
            go_wp2_with fail
            go_ret2
            rw [H2.out.app, HPUT.out, if_neg H5.out, if_pos h0]
            exact ⟨rfl, (H2.out.noted HTO.out e2).2.1⟩
            -->

end Go.Proofs.YtnibpknhpjcamaaGreatDoor
