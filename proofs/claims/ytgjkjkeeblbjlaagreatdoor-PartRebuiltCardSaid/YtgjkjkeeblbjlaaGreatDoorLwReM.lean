/-
  PartRebuilt: the walk. No conditions but deeds that read.
-/
import Derived.Test.YtgjkjkeeblbjlaaGreatDoorJQM
import Derived.Test.YtgjkjkeeblbjlaaGreatDoorJPM
import Derived.Test.YtgjkjkeeblbjlaaGreatDoorJRM
import Derived.Test.YtgjkjkeeblbjlaaGreatDoorGOM
import Derived.Test.YtgjkjkeeblbjlaaGreatDoorGKM
set_option maxRecDepth 100000
namespace Go.Proofs.YtgjkjkeeblbjlaaGreatDoor
open Go.RowKit

theorem PaWell.put_any {s : PPart} {A : ALog} {D : PDisk} (h : PaWell s A D) (b : PBat) : ∃ s' A' D' n y c, s.put A.toP D b = ⟨s', A'.toP, D', n, y, c⟩ ∧ PaWell s' A' D' ∧ A'.all.length ≤ A.all.length + 1 := by
  rcases h.put b with ⟨A', D', e, _, _, _, _, hw, hall, _⟩ | ⟨A', D', n, y, c, e, _, hw, hall, _⟩
  · exact ⟨_, A', D', _, _, _, e, hw, by rw [hall]; simp⟩
  · exact ⟨_, A', D', _, _, _, e, hw, by rw [hall]; omega⟩
theorem PaWell.mark_any {s : PPart} {A : ALog} {D : PDisk} (h : PaWell s A D) (pid ep : Int) (yes : Bool) : ∃ s' A' D' c, s.mark A.toP D pid ep yes = ⟨s', A'.toP, D', 0, false, c⟩ ∧ PaWell s' A' D' ∧ A'.all.length ≤ A.all.length + 1 := by
  rcases h.mark pid ep yes with ⟨A', D', o, e, _, _, hw, hall, _⟩ | ⟨A', D', c, e, hw, hall, _⟩
  · exact ⟨_, A', D', _, e, hw, by rw [hall]; simp⟩
  · exact ⟨_, A', D', _, e, hw, by rw [hall]; omega⟩

theorem fr_setRow8 {S : Nat → Prop} {w : World} {p : Nat} {c : Array Value} (hp : S p) : Fr S w (w.setRow p c) :=
  ⟨rfl, rfl, rfl, by simp [World.setRow], fun k hk hn => by
    have hne : p ≠ k := fun e => hn (e ▸ hp)
    simp [World.setRow, Array.getElem?_modify, hne]⟩

/-- One deed, in a block of its own. -/
theorem one_deed {wa w : World} {y : PDCell} (h : y.reads wa) : ∃ q : List PDCell, q.map PDCell.d = [y.d] ∧ InRow (w.alloc (.cells (pdCells y.d y.B y.K).toArray 49)) (.slice (some ⟨w.heap.size, 0, none⟩) 1 1) q.length 10 (pdsCells q) ∧ ∀ x ∈ q, x.reads wa := by
  refine ⟨[y], rfl, ⟨rfl, some ⟨w.heap.size, 0, none⟩, 1, rfl, Nat.le_refl _, by decide, fun j u hj => ⟨_, rfl, ?_⟩⟩, fun x hx => ?_⟩
  · rw [Addr.add_lit, Nat.zero_add]
    refine (Blk.new w _ _).cell ?_
    simpa [pdsCells] using hj
  · rw [List.mem_singleton] at hx
    subst hx
    exact h

set_option maxHeartbeats 40000000 in
theorem partRebuilt_any {w : World} {v : Value} {l : List PDeed} (y : PDCell) (hy : y.reads w) (h : InPDeeds w v l) : Calls Tryz.prog 9 #[v, .agg (pdCells y.d y.B y.K).toArray] w (AwakePost8 w) := by
  obtain ⟨⟨xk, xn, xe, xy, ⟨bk, bp, be, bs', bl⟩, keep⟩, yB, yK⟩ := y
  obtain ⟨hrec, htx, hkr⟩ := hy
  dsimp only at hrec htx hkr
  obtain ⟨_, ka, kc, hK, hkc, hkm, hkat⟩ := hkr
  subst hK
  obtain ⟨ba, bc, rfl, _, _⟩ := hrec.form
  have hy2 : (PDCell.mk (PDeed.mk xk xn xe xy ⟨bk, bp, be, bs', bl⟩ keep) (.slice ba bl.length bc) (.slice ka keep.length kc)).reads w := ⟨hrec, htx, by simp [keepCells], ka, kc, rfl, hkc, hkm, hkat⟩
  have HY := hid hy2
  clear hrec htx hkat hy2 hkc hkm
  generalize hkn : keep.length = kn
  have HKN := hid hkn
  have hb0 : Below w.heap.size w (w.alloc (.cells #[.int .i64 xk, .int .i64 xn, .int .i64 xe, .bool xy, .int .i64 bk, .int .i64 bp, .int .i64 be, .int .i64 bs', .slice ba bl.length bc, .slice ka kn kc] 49)) := bel_alloc (Below.refl _ _) _
  have hk0 := Blk.new w #[.int .i64 xk, .int .i64 xn, .int .i64 xe, .bool xy, .int .i64 bk, .int .i64 bp, .int .i64 be, .int .i64 bs', .slice ba bl.length bc, .slice ka kn kc] 49
  have HI := hid (h.below hb0)
  have HB0 := hid hb0
  have HK0 := hid hk0
  have HV : Hid (Value.agg (pdCells (PDeed.mk xk xn xe xy ⟨bk, bp, be, bs', bl⟩ keep) (.slice ba bl.length bc) (.slice ka kn kc)).toArray = Value.agg #[.int .i64 xk, .int .i64 xn, .int .i64 xe, .bool xy, .int .i64 bk, .int .i64 bp, .int .i64 be, .int .i64 bs', .slice ba bl.length bc, .slice ka kn kc]) := hid rfl
  dsimp only
  rw [hkn] at HY
  rw [HV.out]
  clear h hb0 hk0 hkn HV
  go_enter Tryz.func9, Tryz.ntmps9
  go_wp2_with fail
  generalize w.alloc (.cells #[.int .i64 xk, .int .i64 xn, .int .i64 xe, .bool xy, .int .i64 bk, .int .i64 bp, .int .i64 be, .int .i64 bs', .slice ba bl.length bc, .slice ka kn kc] 49) = w0 at HI HB0 HK0 ⊢
  generalize hbx : w.heap.size = bx at HK0 ⊢
  refine (made08_any HI.out).mono ?_
  rintro e w1 ⟨p, ll, d, S, SL, SD, s, A, D, rv, rows, rfl, hm⟩
  have hbx0 := HK0.out.lt
  have hk1 := HK0.out.below' hm.trio.bel
  have HW := hid hm.well
  have HT := hid (hm.trio.since HB0.out)
  have HK1 := hid hk1
  have hl40 := hm.len
  have hbxw : w.heap.size ≤ bx := by omega
  clear hm hk1 HI HK0 hbx0 hbx
  go_wp2_with fail
  have hcp := copy_any HT.out.trio.disk HW.out.good.wf.sorted
  unfold ptr at hcp
  refine hcp.mono ?_
  rintro e w2 ⟨rfl, ⟨SE, hde, hse⟩, hb2⟩
  have HT2 := hid (HT.out.below hb2)
  have HK2 := hid (HK1.out.below' hb2)
  have hlt : ∀ k, (S k ∨ SL k ∨ SD k) → k < w1.heap.size := fun k hk => HT.out.lt hk
  have hsz1 := HT.out.bel.size
  have hsz2 := hb2.size
  have HLT := hid hlt
  have HDE := hid hde
  have HSE := hid hse
  obtain ⟨hcalm, hopen⟩ := HW.out.good.calmly HW.out.own HW.out.fuse []
  have HCALM := hid hcalm
  have HOPEN := hid hopen
  clear hcp hde hse hb2 hlt hcalm hopen HT HK1
  generalize w1.heap.size = n1 at HLT HDE HSE hsz1 hsz2 ⊢
  go_wp2_with fail
  refine (crash_any n1 SE D 1000 _ [] _ HDE.out HW.out.good.wf ⟨rfl, none, 0, rfl, Nat.le_refl _, by decide, fun j u hu => by simp [keepCells] at hu⟩ (fun a m cap e => by cases e)).mono ?_
  rintro e w3 ⟨rfl, SE3, hd3, hf3, hs3⟩
  rw [HCALM.out] at hd3
  have hsz3 := hf3.size
  have hse3 : ∀ k, SE3 k → n1 ≤ k := fun k hk => by
    rcases hs3 k hk with h9 | h9
    · exact HSE.out k h9
    · omega
  have hone3 := HT2.out.frames hf3 (fun k hk => by have := HSE.out k hk; omega) (fun k hk h9 => by have h8 := HLT.out k hk; have h7 := HSE.out k h9; omega)
  have HK3 := hid (HK2.out.fr hf3 (fun h9 => HDE.out.other HK2.out (by decide) (by decide) h9))
  have HT3 := hid hone3
  have HD3 := hid hd3
  have HSE3 := hid hse3
  clear hd3 hf3 hs3 hse3 hone3 HT2 HK2 HDE HSE HCALM
  go_wp2_with fail
  refine (paOpen_good (N := 1000) HD3.out HW.out.good.wf HOPEN.out HW.out.good).mono ?_
  rintro e w5 ⟨p5, l5, S5, SL5, SD5, rfl, ht5, hfr5, hs5, hsl5, hsd5⟩
  have hone5 := HT3.out.frames hfr5 (fun k hk => by have := HSE3.out k hk; omega) (fun k hk h9 => by have h8 := HLT.out k hk; have h7 := HSE3.out k h9; omega)
  have htwin : Twin (paThing p ll) (paThing p5 l5) w w5 ll d S SL SD s A.toP D l5 n1 S5 SL5 SD5 s A.toP D := by
    refine ⟨hone5, ⟨ht5, hone5.bel, fun k hk => ?_, fun k hk => ?_, fun k hk => ?_⟩, fun k hk h9 => ?_⟩
    · have := hs5 k hk; omega
    · have := hsl5 k hk; omega
    · rcases hsd5 k hk with h9 | h9
      · have := HSE3.out k h9; omega
      · omega
    · have h8 := HLT.out k hk
      rcases h9 with h9 | h9 | h9
      · have := hs5 k h9; omega
      · have := hsl5 k h9; omega
      · rcases hsd5 k h9 with h9 | h9
        · have := HSE3.out k h9; omega
        · omega
  have HK5 := hid (HK3.out.fr hfr5 (fun h9 => HD3.out.other HK3.out (by decide) (by decide) h9))
  have HB5 := hid htwin
  clear ht5 hfr5 hs5 hsl5 hsd5 hone5 htwin HT3 HK3 HD3 HSE3 HLT HOPEN hsz1 hsz2 hsz3
  have hsm := paSmall_of HW.out.good
  have hp8 := hsm.p8
  have hol := hsm.ol
  have hgl := hsm.gl
  clear hsm
  go_wp2_with fail
  refine (paEnd_any HB5.out.two.trio).mono ?_
  rintro e w' ⟨rfl, rfl⟩
  go_wp2_with fail
  refine (paEnd_any HB5.out.one.trio).mono ?_
  rintro e w' ⟨rfl, rfl⟩
  go_wp2_with fail
  refine (paStable_any HB5.out.two.trio).mono ?_
  rintro e w' ⟨rfl, rfl⟩
  go_wp2_with fail
  refine (paStable_any HB5.out.one.trio).mono ?_
  rintro e w' ⟨rfl, rfl⟩
  go_wp2_with fail
  refine (paProds_any HB5.out.two.trio.obj (by omega)).mono ?_
  rintro e w6 ⟨v6, rfl, hrow6, hb6⟩
  have HB6 := hid (HB5.out.below hb6)
  have HK6 := hid (HK5.out.below' hb6)
  have HR6 := hid hrow6
  obtain ⟨va6, vc6, rfl⟩ := row_slice hrow6
  clear hrow6 hb6 HB5 HK5
  go_wp2_with fail
  refine (paProds_any HB6.out.one.trio.obj (by omega)).mono ?_
  rintro e w7 ⟨v7, rfl, hrow7, hb7⟩
  have HB7 := hid (HB6.out.below hb7)
  have HK7 := hid (HK6.out.below' hb7)
  have HS6 := hid (own_bel HR6.out hb7)
  have HR7 := hid hrow7
  obtain ⟨va7, vc7, rfl⟩ := row_slice hrow7
  clear hrow7 hb7 HB6 HK6 HR6
  go_wp2_with fail
  refine (sameProds_eq HS6.out HR7.out (by omega)).mono ?_
  rintro e w8 ⟨rfl, n8, rfl⟩
  have HB8 := hid (HB7.out.below (bel_drewN _ _ n8))
  have HK8 := hid (HK7.out.below' (bel_drewN _ _ n8))
  clear HB7 HK7 HS6 HR7
  generalize w7.drewN n8 = w8 at HB8 HK8 ⊢
  go_wp2_with fail
  refine (paOpens_any HB8.out.two.trio.obj (by omega)).mono ?_
  rintro e w9 ⟨v9, rfl, hrow9, hb9⟩
  have HB9 := hid (HB8.out.below hb9)
  have HK9 := hid (HK8.out.below' hb9)
  have HR9 := hid hrow9
  obtain ⟨va9, vc9, rfl⟩ := row_slice hrow9
  clear hrow9 hb9 HB8 HK8
  go_wp2_with fail
  refine (paOpens_any HB9.out.one.trio.obj (by omega)).mono ?_
  rintro e w10 ⟨v10, rfl, hrow10, hb10⟩
  have HB10 := hid (HB9.out.below hb10)
  have HK10 := hid (HK9.out.below' hb10)
  have HS9 := hid (own_bel HR9.out hb10)
  have HR10 := hid hrow10
  obtain ⟨va10, vc10, rfl⟩ := row_slice hrow10
  clear hrow10 hb10 HB9 HK9 HR9
  go_wp2_with fail
  refine (sameOpens_eq HS9.out HR10.out (by omega)).mono ?_
  rintro e w11 ⟨rfl, n11, rfl⟩
  have HB11 := hid (HB10.out.below (bel_drewN _ _ n11))
  have HK11 := hid (HK10.out.below' (bel_drewN _ _ n11))
  clear HB10 HK10 HS9 HR10
  generalize w10.drewN n11 = w11 at HB11 HK11 ⊢
  go_wp2_with fail
  refine (paGones_any HB11.out.two.trio.obj (by omega)).mono ?_
  rintro e w12 ⟨v12, rfl, hrow12, hb12⟩
  have HB12 := hid (HB11.out.below hb12)
  have HK12 := hid (HK11.out.below' hb12)
  have HR12 := hid hrow12
  obtain ⟨va12, vc12, rfl⟩ := row_slice hrow12
  clear hrow12 hb12 HB11 HK11
  go_wp2_with fail
  refine (paGones_any HB12.out.one.trio.obj (by omega)).mono ?_
  rintro e w13 ⟨v13, rfl, hrow13, hb13⟩
  have HB13 := hid (HB12.out.below hb13)
  have HK13 := hid (HK12.out.below' hb13)
  have HS12 := hid (own_bel HR12.out hb13)
  have HR13 := hid hrow13
  obtain ⟨va13, vc13, rfl⟩ := row_slice hrow13
  clear hrow13 hb13 HB12 HK12 HR12
  go_wp2_with fail
  refine (sameGones_eq HS12.out HR13.out (by omega)).mono ?_
  rintro e w14 ⟨rfl, n14, rfl⟩
  have HB14 := hid (HB13.out.below (bel_drewN _ _ n14))
  have HK14 := hid (HK13.out.below' (bel_drewN _ _ n14))
  clear HB13 HK13 HS12 HR13
  generalize w13.drewN n14 = w14 at HB14 HK14 ⊢
  have k0 := HK14.out.cell (i := 0) (v := .int .i64 xk) rfl
  have k1 := HK14.out.cell (i := 1) (v := .int .i64 xn) rfl
  have k2 := HK14.out.cell (i := 2) (v := .int .i64 xe) rfl
  have k3 := HK14.out.cell (i := 3) (v := .bool xy) rfl
  have k4 := HK14.out.cell (i := 4) (v := .int .i64 bk) rfl
  have k5 := HK14.out.cell (i := 5) (v := .int .i64 bp) rfl
  have k6 := HK14.out.cell (i := 6) (v := .int .i64 be) rfl
  have k7 := HK14.out.cell (i := 7) (v := .int .i64 bs') rfl
  have k8 := HK14.out.cell (i := 8) (v := .slice ba bl.length bc) rfl
  have k9 := HK14.out.cell (i := 9) (v := .slice ka kn kc) rfl
  have hin := one_deed (w := w14) HY.out
  have HIN := hid hin
  clear hin
  have HB15 := hid (HB14.out.below (bel_alloc (Below.refl _ w14) (.cells #[.int .i64 xk, .int .i64 xn, .int .i64 xe, .bool xy, .int .i64 bk, .int .i64 bp, .int .i64 be, .int .i64 bs', .slice ba bl.length bc, .slice ka kn kc] 49)))
  have HK15 := hid (HK14.out.alloc (.cells #[.int .i64 xk, .int .i64 xn, .int .i64 xe, .bool xy, .int .i64 bk, .int .i64 bp, .int .i64 be, .int .i64 bs', .slice ba bl.length bc, .slice ka kn kc] 49))
  clear HB14 HK14
  go_wp2_with fail
  refine (few08_two HB15.out.one.bel HIN.out).mono ?_
  rintro e w16 ⟨v16, rfl, hout, hb16⟩
  clear k0 k1 k2 k3 k4 k5 k6 k7 k8 k9
  obtain ⟨q, hql, hrow16, hqr⟩ := hout
  have hq1 : q.length = 1 := by
    have h9 := congrArg List.length hql
    rw [List.length_map] at h9
    exact h9
  obtain ⟨z, rfl⟩ := List.length_eq_one_iff.1 hq1
  have hzr := hqr z (by simp)
  have hzl : z.d.b.light = true := by
    have h9 : [z.d] = [PDeed.few (PDeed.mk xk xn xe xy ⟨bk, bp, be, bs', bl⟩ keep)] := hql
    injection h9 with h9 _
    rw [h9]
    exact light_few _
  have hzl2 := light_len hzl
  have HB16 := hid (HB15.out.below hb16)
  have HK16 := hid (HK15.out.below' hb16)
  obtain ⟨g16, c16, hv16, _, hcl⟩ := outPDeed hrow16 (k := 0) (x := z) rfl
  subst hv16
  obtain ⟨⟨zk, zn, ze, zy, ⟨ck, cp, ce, cs, cl⟩, zkeep⟩, zB, zK⟩ := z
  obtain ⟨hrec, _, ⟨_, za, zc, hzK, _⟩⟩ := hzr
  dsimp only at hrec hzK hzl2
  subst hzK
  obtain ⟨ca, cc, rfl, _, _⟩ := hrec.form
  have d0 : w16.cell? ⟨g16, 0, none⟩ = some (.int .i64 zk) := hcl 0 _ rfl
  have d1 : w16.cell? ⟨g16, 1, none⟩ = some (.int .i64 zn) := hcl 1 _ rfl
  have d2 : w16.cell? ⟨g16, 2, none⟩ = some (.int .i64 ze) := hcl 2 _ rfl
  have d3 : w16.cell? ⟨g16, 3, none⟩ = some (.bool zy) := hcl 3 _ rfl
  have d4 : w16.cell? ⟨g16, 4, none⟩ = some (.int .i64 ck) := hcl 4 _ rfl
  have d5 : w16.cell? ⟨g16, 5, none⟩ = some (.int .i64 cp) := hcl 5 _ rfl
  have d6 : w16.cell? ⟨g16, 6, none⟩ = some (.int .i64 ce) := hcl 6 _ rfl
  have d7 : w16.cell? ⟨g16, 7, none⟩ = some (.int .i64 cs) := hcl 7 _ rfl
  have d8 : w16.cell? ⟨g16, 8, none⟩ = some (.slice ca cl.length cc) := hcl 8 _ rfl
  have d9 : w16.cell? ⟨g16, 9, none⟩ = some (.slice za zkeep.length zc) := hcl 9 _ rfl
  have hiD : (Tryz.prog.info? 49).map (·.size) = some (#[.int .i64 zk, .int .i64 zn, .int .i64 ze, .bool zy, .int .i64 ck, .int .i64 cp, .int .i64 ce, .int .i64 cs, .slice ca cl.length cc, .slice za zkeep.length zc] : Array Value).size := by kernel_rfl
  have hap1 := HB16.out.one.trio.not HK16.out (paOther p ll).1.x (paOther p ll).1.y
  have hap2 := HB16.out.two.trio.not HK16.out (paOther p5 l5).1.x (paOther p5 l5).1.y
  have hfr : Fr (fun k => k = bx) w16 (w16.setRow bx #[.int .i64 zk, .int .i64 zn, .int .i64 ze, .bool zy, .int .i64 ck, .int .i64 cp, .int .i64 ce, .int .i64 cs, .slice ca cl.length cc, .slice za zkeep.length zc]) := fr_setRow8 rfl
  have HB17 := hid (HB16.out.frames hfr (fun k hk => by subst hk; exact hbxw) (fun k hk e => by subst e; exact hap1 hk) (fun k hk e => by subst e; exact hap2 hk))
  have hkS : Blk (w16.setRow bx #[.int .i64 zk, .int .i64 zn, .int .i64 ze, .bool zy, .int .i64 ck, .int .i64 cp, .int .i64 ce, .int .i64 cs, .slice ca cl.length cc, .slice za zkeep.length zc]) bx #[.int .i64 zk, .int .i64 zn, .int .i64 ze, .bool zy, .int .i64 ck, .int .i64 cp, .int .i64 ce, .int .i64 cs, .slice ca cl.length cc, .slice za zkeep.length zc] 49 := setRow_heap _ _ _ _ _ _ HK16.out
  have HK17 := hid hkS
  have HREC := hid hrec
  have HLT := hid hzl2
  have HKX := hid HK16.out
  have HID := hid hiD
  clear hfr hkS hap1 hap2 hrec hql hrow16 hqr hzl hzl2 hb16 hcl HB15 HK15 HIN HB16 HK16 HY HB0 hq1 hiD
  go_upto_region 10 with (first
    | (refine wpList_plain rfl (fun K hK => wp_store_row 49 _ _ rfl bx #[.int .i64 zk, .int .i64 zn, .int .i64 ze, .bool zy, .int .i64 ck, .int .i64 cp, .int .i64 ce, .int .i64 cs, .slice ca cl.length cc, .slice za zkeep.length zc] rfl rfl 49 #[.int .i64 xk, .int .i64 xn, .int .i64 xe, .bool xy, .int .i64 bk, .int .i64 bp, .int .i64 be, .int .i64 bs', .slice ba bl.length bc, .slice ka kn kc] HKX.out HID.out rfl (by simp [Value.oneCell']) (hK _ _ ?_))))
  generalize w16.setRow bx #[.int .i64 zk, .int .i64 zn, .int .i64 ze, .bool zy, .int .i64 ck, .int .i64 cp, .int .i64 ce, .int .i64 cs, .slice ca cl.length cc, .slice za zkeep.length zc] = w17 at HB17 HK17 ⊢
  clear d0 d1 d2 d3 d4 d5 d6 d7 d8 d9 HKX HID
  have k0 := HK17.out.cell (i := 0) (v := .int .i64 zk) rfl
  have k1 := HK17.out.cell (i := 1) (v := .int .i64 zn) rfl
  have k2 := HK17.out.cell (i := 2) (v := .int .i64 ze) rfl
  have k3 := HK17.out.cell (i := 3) (v := .bool zy) rfl
  have k4 := HK17.out.cell (i := 4) (v := .int .i64 ck) rfl
  have k5 := HK17.out.cell (i := 5) (v := .int .i64 cp) rfl
  have k6 := HK17.out.cell (i := 6) (v := .int .i64 ce) rfl
  have k7 := HK17.out.cell (i := 7) (v := .int .i64 cs) rfl
  have k8 := HK17.out.cell (i := 8) (v := .slice ca cl.length cc) rfl
  have k9 := HK17.out.cell (i := 9) (v := .slice za zkeep.length zc) rfl
  obtain ⟨s1, A1, D1, n1', y1, c1, hp, hw1, hl1⟩ := HW.out.put_any ⟨ck, cp, ce, cs, cl⟩
  have HP := hid hp
  have HW1 := hid hw1
  clear hp hw1
  go_wp2_with fail
  have hpt := paPut_any (N := 1000) ⟨ck, cp, ce, cs, cl⟩ (.slice ca cl.length cc) HB17.out.one.trio (paSmall_of HW.out.good) (fun _ => HW.out.good) (HREC.out.below HB17.out.one.bel) (fun r hr => by have := HLT.out.2 r hr; omega) (by have := HLT.out.1; dsimp only; omega)
  rw [HP.out] at hpt
  refine hpt.mono ?_
  rintro e w18 ⟨rfl, hto⟩
  have hk18 := HB17.out.one.trio.blk hto HK17.out (paOther p ll).1.x (paOther p ll).1.y
  obtain ⟨T1, TL1, TD1, ht18⟩ := HB17.out.call hto
  dsimp only at ht18 ⊢
  have HB18 := hid ht18
  have HK18 := hid hk18
  clear hpt hto ht18 hk18 k0 k1 k2 k3 k4 k5 k6 k7 k8 k9
  have k0 := HK18.out.cell (i := 0) (v := .int .i64 zk) rfl
  have k1 := HK18.out.cell (i := 1) (v := .int .i64 zn) rfl
  have k2 := HK18.out.cell (i := 2) (v := .int .i64 ze) rfl
  have k3 := HK18.out.cell (i := 3) (v := .bool zy) rfl
  have k4 := HK18.out.cell (i := 4) (v := .int .i64 ck) rfl
  have k5 := HK18.out.cell (i := 5) (v := .int .i64 cp) rfl
  have k6 := HK18.out.cell (i := 6) (v := .int .i64 ce) rfl
  have k7 := HK18.out.cell (i := 7) (v := .int .i64 cs) rfl
  have k8 := HK18.out.cell (i := 8) (v := .slice ca cl.length cc) rfl
  have k9 := HK18.out.cell (i := 9) (v := .slice za zkeep.length zc) rfl
  go_wp2_with fail
  have hpt := paPut_any (N := 1000) ⟨ck, cp, ce, cs, cl⟩ (.slice ca cl.length cc) HB18.out.two.trio (paSmall_of HW.out.good) (fun _ => HW.out.good) (HREC.out.below HB18.out.one.bel) (fun r hr => by have := HLT.out.2 r hr; omega) (by have := HLT.out.1; dsimp only; omega)
  rw [HP.out] at hpt
  refine hpt.mono ?_
  rintro e w19 ⟨rfl, hto⟩
  have hk19 := HB18.out.two.trio.blk hto HK18.out (paOther p5 l5).1.x (paOther p5 l5).1.y
  obtain ⟨T2, TL2, TD2, ht19⟩ := HB18.out.swap.call hto
  dsimp only at ht19 ⊢
  have HB19 := hid ht19.swap
  have HK19 := hid hk19
  clear hpt hto ht19 hk19 HB17 HK17 HB18 HK18 k0 k1 k2 k3 k4 k5 k6 k7 k8 k9
  obtain ⟨s2, A2, D2, c2, hm2, hw2, hl2⟩ := HW1.out.mark_any zn ze zy
  have HMK := hid hm2
  have HW2 := hid hw2
  clear hm2 hw2
  have k1 := HK19.out.cell (i := 1) (v := .int .i64 zn) rfl
  have k2 := HK19.out.cell (i := 2) (v := .int .i64 ze) rfl
  have k3 := HK19.out.cell (i := 3) (v := .bool zy) rfl
  go_upto_region 12 with fail
  have HB19D := hid (HB19.out.below (Below.refl _ w19).drew)
  have HK19D := hid HK19.out.drew
  refine wp_region_perm (fun w' => w'.cell? ⟨bx, 1, none⟩ = some (.int .i64 zn) ∧ w'.cell? ⟨bx, 2, none⟩ = some (.int .i64 ze) ∧ w'.cell? ⟨bx, 3, none⟩ = some (.bool zy)) [7, 15] [0, 1, 2, 3, 4, 5, 6, 8, 9, 10, 11, 12, 13, 14, 7, 15, 16, 17] (by kernel_rfl) (by kernel_rfl) (fun _ _ _ _ _ h => h) (by go_keep) (fun hHeld => ?_)
  iterate 14
    refine ord_take (v := ?_) rfl (by kernel_rfl) (by kernel_rfl) ?_ ?_
    rotate_left
    focus
      intro w' hSw
      try dsimp only at hSw
      go_simp <;> with_reducible rfl
    simp only [Act.put, List.setIfInBounds_toArray]
  refine ord_step rfl (by kernel_rfl) (by kernel_rfl) (fun K hK => ?_)
  go_simp
  have hmt := paMark_any (N := 1000) zn ze zy HB19D.out.one.trio (paSmall_of HW1.out.good) (fun _ => HW1.out.good)
  rw [HMK.out] at hmt
  refine hmt.mono ?_
  rintro e w20 ⟨rfl, hto⟩
  have hk20 := HB19D.out.one.trio.blk hto HK19D.out (paOther p ll).1.x (paOther p ll).1.y
  obtain ⟨T20, TL20, TD20, ht20⟩ := HB19D.out.call hto
  dsimp only at ht20 ⊢
  have HB20 := hid ht20
  have HK20 := hid hk20
  have m120 := hk20.cell (i := 1) (v := .int .i64 zn) rfl
  have m220 := hk20.cell (i := 2) (v := .int .i64 ze) rfl
  have m320 := hk20.cell (i := 3) (v := .bool zy) rfl
  clear hmt hto ht20 hk20
  go_simp
  refine hK.out _ _ (by exact ⟨m120, m220, m320⟩) (fun hHeld => ?_)
  clear hK K
  try simp only [Act.put, List.setIfInBounds_toArray, List.set_cons_zero, List.set_cons_succ]
  refine ord_step rfl (by kernel_rfl) (by kernel_rfl) (fun K hK => ?_)
  go_simp
  have hmt := paMark_any (N := 1000) zn ze zy HB20.out.two.trio (paSmall_of HW1.out.good) (fun _ => HW1.out.good)
  rw [HMK.out] at hmt
  refine hmt.mono ?_
  rintro e w21 ⟨rfl, hto⟩
  have hk21 := HB20.out.two.trio.blk hto HK20.out (paOther p5 l5).1.x (paOther p5 l5).1.y
  obtain ⟨T21, TL21, TD21, ht21⟩ := HB20.out.swap.call hto
  dsimp only at ht21 ⊢
  have HB21 := hid ht21.swap
  have HK21 := hid hk21
  have m121 := hk21.cell (i := 1) (v := .int .i64 zn) rfl
  have m221 := hk21.cell (i := 2) (v := .int .i64 ze) rfl
  have m321 := hk21.cell (i := 3) (v := .bool zy) rfl
  clear hmt hto ht21 hk21
  go_simp
  refine hK.out _ _ (by exact ⟨m121, m221, m321⟩) (fun hHeld => ?_)
  clear hK K
  try simp only [Act.put, List.setIfInBounds_toArray, List.set_cons_zero, List.set_cons_succ]
  iterate 2
    refine ord_take (v := ?_) rfl (by kernel_rfl) (by kernel_rfl) ?_ ?_
    rotate_left
    focus
      intro w' hSw
      try dsimp only at hSw
      go_simp <;> with_reducible rfl
    simp only [Act.put, List.setIfInBounds_toArray]
  refine ord_nil ?_
  clear hHeld m120 m220 m320 m121 m221 m321 k1 k2 k3 HB19 HB19D HK19 HK19D HB20 HK20
  have k3 := HK21.out.cell (i := 3) (v := .bool zy) rfl
  go_wp2_with fail
  refine (every08_any 9 zy HB21.out.one.trio HW2.out.good (by decide) (by omega)).mono ?_
  rintro e w22 ⟨v22, rfl, hrow22, hb22⟩
  have HB22 := hid (HB21.out.below hb22)
  have HK22 := hid (HK21.out.below' hb22)
  have HR22 := hid (own_base hrow22 (Nat.zero_le _))
  obtain ⟨va22, vc22, rfl⟩ := row_slice hrow22
  have hla : (s2.toldAll zy A2).length ≤ 1000000 := by
    have h8 := flatMap_len8 (told_len s2 zy) (s2.vis zy A2)
    have h9 := vis_len HW2.out.good zy
    unfold PPart.toldAll
    omega
  clear hrow22 hb22 HB21 HK21 k3
  have k3 := HK22.out.cell (i := 3) (v := .bool zy) rfl
  go_wp2_with fail
  refine (every08_any 9 zy HB22.out.two.trio HW2.out.good (by decide) (by omega)).mono ?_
  rintro e w23 ⟨v23, rfl, hrow23, hb23⟩
  have HB23 := hid (HB22.out.below hb23)
  have HR223 := hid (own_bel HR22.out hb23)
  have HR23 := hid (own_base hrow23 (Nat.zero_le _))
  obtain ⟨va23, vc23, rfl⟩ := row_slice hrow23
  clear hrow23 hb23 HB22 HK22 HR22 k3
  have by1 : (y1 == y1) = true := by cases y1 <;> rfl
  go_wp2_with fail
  refine (sameGot_eq HR223.out HR23.out hla).mono ?_
  rintro e w24 ⟨rfl, n24, rfl⟩
  have HB24 := hid (HB23.out.below (bel_drewN _ _ n24))
  clear HB23 HR223 HR23
  go_wp2_with fail
  refine (awake08_any _).mono ?_
  rintro e w25 ⟨rfl, hb25⟩
  have HB25 := hid (bel_next HB24.out.one.bel hb25)
  clear hb25
  go_wp2_with fail
  go_ret
  exact ⟨rfl, HB25.out⟩
end Go.Proofs.YtgjkjkeeblbjlaaGreatDoor
