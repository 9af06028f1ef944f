/-
  LogAgain: the walk. No conditions but arguments that read.
-/
import Derived.Test.YtnibpknhpjcamaaGreatDoorGOM
import Derived.Test.YtnibpknhpjcamaaGreatDoorGLM
import Derived.Test.YtnibpknhpjcamaaGreatDoorMarksM
import Derived.Deep.DeepCutAuto
import Derived.BigRegion
set_option maxRecDepth 100000
namespace Go.Proofs.YtnibpknhpjcamaaGreatDoor
open Go.RowKit

/-- Two logs on one disk, and a third one on its copy. -/
structure AgMid (w wr : World) (ll d lb lc dc n2 xb : Nat) (S SD SB SC SDC : Nat → Prop) (A : ALog) (D : PDisk) (av : Value) (x : PItem) : Prop where
  a : LogIn w wr ll d S SD A.toP D
  b : LogAt wr lb d SB A.whole.toP
  c : LogAt wr lc dc SC A.whole.toP
  cd : DiskAt wr dc SDC D
  row : wr.ownsRow w.heap.size 37 3 av A.all.length (entCells A.all)
  item : Blk wr xb #[.int .i64 x.n, .string (bs x.text)] 58
  hxb : w.heap.size ≤ xb
  hn2 : w.heap.size ≤ n2
  lo : ∀ k, S k ∨ SD k → k < n2
  hi : ∀ k, SC k ∨ SDC k → n2 ≤ k

theorem AgMid.below {w wr w1 : World} {ll d lb lc dc n2 xb : Nat} {S SD SB SC SDC : Nat → Prop} {A : ALog} {D : PDisk} {av : Value} {x : PItem} (h : AgMid w wr ll d lb lc dc n2 xb S SD SB SC SDC A D av x) (hb : Below wr.heap.size wr w1) : AgMid w w1 ll d lb lc dc n2 xb S SD SB SC SDC A D av x :=
  ⟨h.a.below hb, h.b.below hb, h.c.below hb, h.cd.below hb, own_bel h.row hb, h.item.below' hb, h.hxb, h.hn2, h.lo, h.hi⟩

theorem AgMid.cut {w wr : World} {ll d lb lc dc n2 xb : Nat} {S SD SB SC SDC : Nat → Prop} {A : ALog} {D : PDisk} {av : Value} {x : PItem} (h : AgMid w wr ll d lb lc dc n2 xb S SD SB SC SDC A D av x) (t : List UInt8) :
    AgMid w (wr.setCell ⟨xb, 1, none⟩ (.string (bs t))) ll d lb lc dc n2 xb S SD SB SC SDC A D av { x with text := t } := by
  have hf : Fr (fun k => k = xb) wr (wr.setCell ⟨xb, 1, none⟩ (.string (bs t))) := Fr.setCell (S := fun k => k = xb) (p := ⟨xb, 1, none⟩) (Fr.refl _ _) (.inl rfl) _
  have hb2 : wr.heap[xb]? = some (.cells #[.int .i64 x.n, .string (bs x.text)] 58 (0, 0)) := h.item
  refine ⟨⟨h.a.log.fr hf ?_, h.a.disk.fr hf ?_, h.a.s, h.a.sd, h.a.bel.trans (hf.to_below h.a.bel.size (fun k hk e => by have := h.hxb; omega))⟩, h.b.fr hf ?_, h.c.fr hf ?_, h.cd.fr hf ?_, row_fr h.row hf ?_, h.item.set 1 _, h.hxb, h.hn2, h.lo, h.hi⟩
  · rintro k hk rfl; exact h.a.log.other hb2 (by decide) (by decide) (by decide) hk
  · rintro k hk rfl; exact h.a.disk.other h.item (by decide) (by decide) hk
  · rintro k hk rfl; exact h.b.other hb2 (by decide) (by decide) (by decide) hk
  · rintro k hk rfl; exact h.c.other hb2 (by decide) (by decide) (by decide) hk
  · rintro k hk rfl; exact h.cd.other h.item (by decide) (by decide) hk
  · rintro k hk rfl
    obtain ⟨c, fz, hc⟩ := Lib.ownsRow_kind h.row _ hk
    rw [hb2] at hc
    simp at hc

/-- Behind the first append. -/
theorem AgMid.first {w wr w5 : World} {ll d lb lc dc n2 xb : Nat} {S SD SB SC SDC : Nat → Prop} {A A' : ALog} {D D' : PDisk} {av : Value} {x : PItem} (h : AgMid w wr ll d lb lc dc n2 xb S SD SB SC SDC A D av x) (hto : LogTo wr w5 ll d S SD A'.toP D') :
    (∃ S5, LogAt w5 ll d S5 A'.toP ∧ ∀ k, S5 k → ¬ (SC k ∨ SDC k)) ∧ LogAt w5 lc dc SC A.whole.toP ∧ DiskAt w5 dc SDC D ∧ Blk w5 xb #[.int .i64 x.n, .string (bs x.text)] 58 ∧ Below w.heap.size w w5 := by
  obtain ⟨S5, SD5, hl5, hd5, hf5, hs5, hsd5⟩ := hto
  have hb2 : wr.heap[xb]? = some (.cells #[.int .i64 x.n, .string (bs x.text)] 58 (0, 0)) := h.item
  refine ⟨⟨S5, hl5, fun k hk h9 => ?_⟩, h.c.fr hf5 (fun k hk h9 => ?_), h.cd.fr hf5 (fun k hk h9 => ?_), h.item.fr hf5 (fun h9 => ?_), h.a.bel.trans (hf5.to_below h.a.bel.size (fun k hk h9 => ?_))⟩
  · have h10 : k < wr.heap.size := by
      rcases h9 with h9 | h9
      · exact h.c.lt h9
      · exact h.cd.lt h9
    rcases hs5 k hk with h11 | h11
    · have := h.lo k (.inl h11)
      have := h.hi k h9
      omega
    · omega
  · have := h.hi k (.inl hk)
    have := h.lo k h9
    omega
  · have := h.hi k (.inr hk)
    have := h.lo k h9
    omega
  · rcases h9 with h9 | h9
    · exact h.a.log.other hb2 (by decide) (by decide) (by decide) h9
    · exact h.a.disk.other h.item (by decide) (by decide) h9
  · rcases h9 with h9 | h9
    · have := h.a.s k h9; omega
    · have := h.a.sd k h9; omega

theorem reads_one (w : World) (x : PItem) : Reads (w.alloc (.cells #[.int .i64 x.n, .string (bs x.text)] 58)) (.slice (some ⟨w.heap.size, 0, none⟩) 1 1) ([x] : List PItem).length 2 (itemCells [x]) := by
  refine ⟨rfl, _, _, rfl, fun j u hj => ⟨_, rfl, ?_⟩⟩
  have h := cells_new w (itemCells [x]) 58 j u hj
  have e : (⟨w.heap.size, 0, none⟩ : Addr).add j = ⟨w.heap.size, j, none⟩ := by
    cases j with
    | zero => simp [Addr.add]
    | succ j => simp [Addr.add]
  rw [e] at h
  exact h

set_option maxHeartbeats 8000000 in
theorem again_any {w : World} {v : Value} {l : List PDeed} (size n : Int) (t : ByteArray) (h : InDeeds w v l) (ht : t.size ≤ maxLen) :
    Calls Tryz.prog 9 #[.int .i64 size, v, .agg #[.int .i64 n, .string t]] w (AwakePost w) := by
  obtain ⟨A, hA⟩ := madeL_is size l
  obtain ⟨txt, rfl⟩ : ∃ l, t = bs l := ⟨tl t, (bs_tl t).symm⟩
  have HA := hid hA
  have HT := hid ht
  have hbw := bel_alloc (Below.refl w.heap.size w) (.cells #[.int .i64 n, .string (bs txt)] 58)
  have hbk := Blk.new w #[.int .i64 n, .string (bs txt)] 58
  have HI := hid (h.below hbw)
  have HBW := hid hbw
  have HBK := hid hbk
  clear hA h ht hbw hbk
  go_enter Tryz.func9, Tryz.ntmps9
  go_wp2_with fail
  generalize w.alloc (.cells #[.int .i64 n, .string (bs txt)] 58) = w0 at HI HBW HBK ⊢
  refine (made_any size HI.out).mono ?_
  rintro e w1 ⟨ll, d, av, S, SD, rfl, hlog, hd, hrow, hS, hSD, hb⟩
  generalize madeL size l = r at HA hlog hd hrow
  obtain ⟨r1, D, acc⟩ := r
  have hsl := HA.out.count
  obtain ⟨e1, hg, hnm, e2, hdw, hwf, hlen, hbd⟩ := HA.out
  have hml := marks_len hbd
  dsimp only at e1 e2 hlog hd hrow hg hdw
  subst e1 e2
  clear HA HI hbd
  generalize madeRoom size = N at hdw
  obtain ⟨D3, ho1, hi3, hw3, hoff3, hfu3, ho2⟩ := hg.inv.again hdw hg.off hg.fuse
  have hsz0 := HBW.out.size
  have hli : LogIn w w1 ll d S SD A.toP D := ⟨hlog, hd, fun k hk => by have := hS k hk; omega, fun k hk => by have := hSD k hk; omega, bel_next HBW.out hb⟩
  have hit1 := HBK.out.below' hb
  have HLI := hid hli
  have HROW := hid (own_base hrow hsz0)
  have HIT := hid hit1
  have HG := hid hg
  have HO := hid (And.intro ho1 (And.intro ho2 (And.intro hnm hdw)))
  have H3 := hid (And.intro hi3 (And.intro hw3 (And.intro hoff3 hfu3)))
  have HWF := hid (And.intro hwf (hi3.wf hw3))
  clear hlog hd hrow hS hSD hb hli hit1 hg ho1 ho2 hi3 hw3 hoff3 hfu3 hdw hnm hwf HBK HBW
  unfold ptr
  go_wp2_with fail
  refine (open_any ⟨#[108, 111, 103]⟩ HLI.out.disk HO.out.2.2.2 (by decide)).mono ?_
  rintro e w2 hp
  have htl : tl ⟨#[108, 111, 103]⟩ = [108, 111, 103] := rfl
  rw [htl, ← HO.out.2.2.1, HO.out.1] at hp
  rcases hp with ⟨h9, _, _⟩ | ⟨_, lb, SB, SD2, rfl, hlogb, hdb, hfrb, hsb, hsdb⟩
  · exact absurd rfl h9
  have hsz1 := HLI.out.bel.size
  have hli2 : LogIn w w2 ll d S SD2 A.toP D3 := by
    refine ⟨HLI.out.log.fr hfrb (fun k hk => HLI.out.log.apart HLI.out.disk hk), hdb, HLI.out.s, fun i hi => ?_, HLI.out.bel.trans (hfrb.to_below hsz1 (fun i hi h9 => by have := HLI.out.sd i h9; omega))⟩
    rcases hsdb i hi with h9 | h9
    · exact HLI.out.sd i h9
    · omega
  have HLI2 := hid hli2
  have HLB := hid hlogb
  have HROW2 := hid (row_fr HROW.out hfrb (fun i hi h9 => row_disk HROW.out HLI.out.disk (by decide) (by decide) i hi h9))
  have HIT2 := hid (HIT.out.fr hfrb (fun h9 => HLI.out.disk.other HIT.out (by decide) (by decide) h9))
  clear hlogb hdb hfrb hsb hsdb hli2 HLI HROW HIT hsz1
  unfold ptr
  go_wp2_with fail
  refine (copy_any HLI2.out.disk H3.out.2.1.sorted).mono ?_
  rintro e w3 ⟨rfl, ⟨SC0, hdc, hsc0⟩, hb3⟩
  have HDC := hid hdc
  have HB3 := hid hb3
  clear hdc hb3
  unfold ptr
  go_wp2_with fail
  refine (open_any ⟨#[108, 111, 103]⟩ HDC.out H3.out.2.1 (by decide)).mono ?_
  rintro e w4 hp
  rw [htl, ← HO.out.2.2.1, HO.out.2.1] at hp
  rcases hp with ⟨h9, _, _⟩ | ⟨_, lc, SC, SDC, rfl, hlogc, hdc, hfrc, hsc, hsdc⟩
  · exact absurd rfl h9
  have hmid : AgMid w w4 ll d lb lc w2.heap.size w2.heap.size w.heap.size S SD2 SB SC SDC A D3 av ⟨n, txt⟩ := by
    have hsz2 := HLI2.out.bel.size
    have hsz3 := HB3.out.size
    have hb4 : Below w2.heap.size w2 w4 := HB3.out.trans (hfrc.to_below hsz3 (fun k hk h9 => by have := hsc0 k h9; omega))
    refine ⟨HLI2.out.below hb4, HLB.out.below hb4, hlogc, hdc, own_bel HROW2.out hb4, HIT2.out.below' hb4, Nat.le_refl _, hsz2, fun k hk => ?_, fun k hk => ?_⟩
    · rcases hk with hk | hk
      · exact HLI2.out.log.lt hk
      · exact HLI2.out.disk.lt hk
    · rcases hk with hk | hk
      · have := hsc k hk; omega
      · rcases hsdc k hk with h9 | h9
        · exact hsc0 k h9
        · omega
  have HM4 := hid hmid
  clear hmid hlogc hdc hfrc hsc hsdc hsc0 HLI2 HLB HROW2 HIT2 HDC HB3 htl
  generalize w2.heap.size = n2 at HM4
  unfold ptr
  go_wp2_with fail
  refine (sure_any HM4.out.b).mono ?_
  rintro e w' ⟨rfl, rfl⟩
  go_wp2_with fail
  refine (next_any HM4.out.a.log).mono ?_
  rintro e w' ⟨rfl, rfl⟩
  have hsn : A.whole.toP.sure = A.toP.next := rfl
  rw [hsn]
  clear hsn
  go_wp2_with fail
  have hch := H3.out.1.all_chain
  refine (every_any 3 A.all HM4.out.b HM4.out.a.disk H3.out.2.1 HWF.out.2 (fun o => H3.out.1.fetch_pos H3.out.2.1 H3.out.2.2.1 o) ⟨by decide, by decide⟩ hch.1 hch.2 (by omega) (every_spec H3.out.1 H3.out.2.1 H3.out.2.2.1 rfl ⟨by decide, by decide⟩).1).mono ?_
  rintro e w5 ⟨v5, rfl, hrow5, hb5⟩
  have HROW5 := hid hrow5
  have HM5 := hid (HM4.out.below hb5)
  clear hch hrow5 hb5 HM4
  go_wp2_with fail
  refine (same_yes (l := A.all) (Reads.of_own HROW5.out) (Reads.of_own HM5.out.row) (by omega)).mono ?_
  rintro e w6 ⟨rfl, nn, rfl⟩
  have HM6 := hid (HM5.out.below (bel_drewN w5.heap.size w5 nn))
  clear HROW5 HM5
  generalize w5.drewN nn = w6 at HM6 ⊢
  go_wp2_with fail
  refine (segments_any HM6.out.b (by show (A.segs.map ASeg.seg).length ≤ _; rw [List.length_map]; omega)).mono ?_
  rintro e w7 ⟨va, rfl, hra, hb7⟩
  have HM7 := hid (HM6.out.below hb7)
  have HRA := hid hra
  clear hra hb7 HM6
  go_wp2_with fail
  refine (segments_any HM7.out.a.log (by show (A.segs.map ASeg.seg).length ≤ _; rw [List.length_map]; omega)).mono ?_
  rintro e w8 ⟨vb, rfl, hrb, hb8⟩
  have HM8 := hid (HM7.out.below hb8)
  have HRB := hid hrb
  have HRA8 := hid (own_bel HRA.out hb8)
  clear hrb hb8 HM7 HRA
  go_wp2_with fail
  refine (segs_yes (l := A.toP.segs) (Reads.of_own HRA8.out) (Reads.of_own HRB.out) (by show (A.segs.map ASeg.seg).length ≤ _; rw [List.length_map]; omega)).mono ?_
  rintro e w9 ⟨rfl, nn2, rfl⟩
  have HM9 := hid (HM8.out.below (bel_drewN w8.heap.size w8 nn2))
  clear HRA8 HRB HM8
  generalize w8.drewN nn2 = w9 at HM9 ⊢
  go_wp2_with fail
  refine (marks_any HM9.out.b HWF.out.2).mono ?_
  rintro e w10 ⟨vc, rfl, hrc, hb10⟩
  have HM10 := hid (HM9.out.below hb10)
  have HRC := hid hrc
  clear hrc hb10 HM9
  go_wp2_with fail
  refine (marks_any HM10.out.a.log HWF.out.1).mono ?_
  rintro e w11 ⟨vd, rfl, hrd, hb11⟩
  have HM11 := hid (HM10.out.below hb11)
  have HRD := hid hrd
  have HRC11 := hid (own_bel HRC.out hb11)
  clear hrd hb11 HM10 HRC
  have hmk : (A.toP.segs.flatMap PSeg.marks).length ≤ 16777216 := by rw [A.marks_eq]; omega
  go_wp2_with fail
  refine (smarks_yes (l := A.toP.segs.flatMap PSeg.marks) (Reads.of_own HRC11.out) (Reads.of_own HRD.out) hmk).mono ?_
  rintro e w12 ⟨rfl, nn3, rfl⟩
  have HM12 := hid (HM11.out.below (bel_drewN w11.heap.size w11 nn3))
  clear HRC11 HRD HM11
  generalize w11.drewN nn3 = w12 at HM12 ⊢
  go_wp2_with fail
  refine (marks_any HM12.out.c HWF.out.2).mono ?_
  rintro e w13 ⟨vc3, rfl, hrc, hb10⟩
  have HM13 := hid (HM12.out.below hb10)
  have HRC := hid hrc
  clear hrc hb10 HM12
  go_wp2_with fail
  refine (marks_any HM13.out.a.log HWF.out.1).mono ?_
  rintro e w14 ⟨vd4, rfl, hrd, hb11⟩
  have HM14 := hid (HM13.out.below hb11)
  have HRD := hid hrd
  have HRC14 := hid (own_bel HRC.out hb11)
  clear hrd hb11 HM13 HRC
  go_wp2_with fail
  refine (smarks_yes (l := A.toP.segs.flatMap PSeg.marks) (Reads.of_own HRC14.out) (Reads.of_own HRD.out) hmk).mono ?_
  rintro e w15 ⟨rfl, nn5, rfl⟩
  have HM15 := hid (HM14.out.below (bel_drewN w14.heap.size w14 nn5))
  clear HRC14 HRD HM14
  generalize w14.drewN nn5 = w15 at HM15 ⊢
  have c1 := HM15.out.item.cell (i := 1) (v := .string (bs txt)) rfl
  have f1 := HM15.out.item.free 1
  have hs0 : (bs txt).size = txt.length := rfl
  have hs1 : txt.length ≤ maxLen := HT.out
  go_upto_if 102 with fail
  go_cut [5] (fun xv wx => xv = .pointer (some ⟨w.heap.size, 0, none⟩) ∧ ∃ x : PItem, x.text.length ≤ 1500 ∧ AgMid w wx ll d lb lc n2 n2 w.heap.size S SD2 SB SC SDC A D3 av x)
  case first =>
    by_cases hlt : 1500 < txt.length
    · have hd1 : decide (1500 < (bs txt).size) = true := by simpa [hs0] using hlt
      go_wp2_with fail
      go_meet
      refine ⟨rfl, ⟨n, txt.take 1500⟩, by simp; omega, ?_⟩
      have h9 := HM15.out.cut (txt.take 1500)
      rw [extract_take, tl_bs]
      exact h9
    · have hd1 : decide (1500 < (bs txt).size) = false := by simpa [hs0] using hlt
      go_wp2_with fail
      go_meet
      exact ⟨rfl, ⟨n, txt⟩, by show txt.length ≤ 1500; omega, HM15.out⟩
  case rest =>
    clear c1 f1 hs0 hs1
    obtain ⟨rfl, x, hx, hmid⟩ := hcut
    rename World => wi
    have HM := hid hmid
    have HX := hid hx
    have c0 := hmid.item.cell (i := 0) (v := .int .i64 x.n) rfl
    have c1 := hmid.item.cell (i := 1) (v := .string (bs x.text)) rfl
    have HGE := hid HG.out.e
    clear hmid hx HG HM15
    go_wp2_with fail
    have hr1 := reads_one wi x
    have hba := bel_alloc (Below.refl wi.heap.size wi) (.cells #[.int .i64 x.n, .string (bs x.text)] 58)
    have HMA := hid (HM.out.below hba)
    have HR1 := hid hr1
    clear hr1 hba HM c0 c1
    generalize (Value.slice (some ⟨wi.heap.size, 0, none⟩) 1 1) = iv at HR1 ⊢
    generalize wi.alloc (.cells #[.int .i64 x.n, .string (bs x.text)] 58) = wj at HMA HR1 ⊢
    refine (append_all (N := N) iv [x] HMA.out.a.log HMA.out.a.disk H3.out.2.1 HWF.out.1 HR1.out (by simp) (fun y hy => by simp at hy; subst hy; have := HX.out; omega)).mono ?_
    rintro e wk ⟨rfl, hto⟩
    rw [toP_append] at hto ⊢
    dsimp only at hto ⊢
    obtain ⟨⟨S5, hl5, hap⟩, hc5, hcd5, hit5, hb5⟩ := HMA.out.first hto
    have hcap := append_whole A D3 HGE.out [x]
    have c0 := hit5.cell (i := 0) (v := .int .i64 x.n) rfl
    have c1 := hit5.cell (i := 1) (v := .string (bs x.text)) rfl
    have HL5 := hid hl5
    have HAP := hid hap
    have HC5 := hid hc5
    have HCD5 := hid hcd5
    have HB5 := hid hb5
    have HCAP := hid hcap
    have HN2 := hid (And.intro HMA.out.hn2 HMA.out.hi)
    clear hto hl5 hap hc5 hcd5 hit5 hb5 hcap HMA HR1
    go_wp2_with fail
    have hr1 := reads_one wk x
    have hba := bel_alloc (Below.refl wk.heap.size wk) (.cells #[.int .i64 x.n, .string (bs x.text)] 58)
    have HL6 := hid (HL5.out.below hba)
    have HC6 := hid (HC5.out.below hba)
    have HCD6 := hid (HCD5.out.below hba)
    have HB6 := hid (bel_next HB5.out hba)
    have HR1 := hid hr1
    clear hr1 hba HL5 HC5 HCD5 HB5 c0 c1
    generalize (Value.slice (some ⟨wk.heap.size, 0, none⟩) 1 1) = iv2 at HR1 ⊢
    generalize wk.alloc (.cells #[.int .i64 x.n, .string (bs x.text)] 58) = wm at HL6 HC6 HCD6 HB6 HR1 ⊢
    refine (append_all (N := N) iv2 [x] HC6.out HCD6.out H3.out.2.1 HWF.out.2 HR1.out (by simp) (fun y hy => by simp at hy; subst hy; have := HX.out; omega)).mono ?_
    rintro e wn ⟨rfl, hto⟩
    rw [toP_append] at hto ⊢
    dsimp only at hto ⊢
    rw [HCAP.out.1]
    obtain ⟨S7, SD7, hl7, hd7, hf7, hs7, hsd7⟩ := hto
    have HA7 := hid (HL6.out.fr hf7 HAP.out)
    have HC7 := hid hl7
    have HB7 := hid (HB6.out.trans (hf7.to_below HB6.out.size (fun k hk h9 => by
      have h1 := HN2.out.1
      have h2 := HN2.out.2 k h9
      omega)))
    have hnx : (A.whole.append D3 [x]).1.toP.next = (A.append D3 [x]).1.toP.next := HCAP.out.2
    have HNX := hid hnx
    clear hl7 hd7 hf7 hs7 hsd7 hnx HL6 HC6 HCD6 HB6 HR1 HCAP
    generalize (A.append D3 [x]).2.2.1 = rn
    generalize (A.append D3 [x]).2.2.2 = rc
    generalize (A.append D3 [x]).1 = A5 at HA7 HNX ⊢
    generalize (A.whole.append D3 [x]).1 = A7 at HC7 HNX ⊢
    go_wp2_with fail
    refine (next_any HA7.out).mono ?_
    rintro e w' ⟨rfl, rfl⟩
    go_wp2_with fail
    refine (next_any HC7.out).mono ?_
    rintro e w' ⟨rfl, rfl⟩
    rw [HNX.out]
    go_wp2_with fail
    refine (awake_any _).mono ?_
    rintro e wz ⟨rfl, hbz⟩
    have HBZ := hid (bel_next HB7.out hbz)
    clear hbz
    go_wp2_with fail
    go_ret
    exact ⟨rfl, HBZ.out⟩
end Go.Proofs.YtnibpknhpjcamaaGreatDoor
