/-
  LogTorn: the walk. No conditions but arguments that read.
-/
import Derived.Test.YtnibpknhpjcamaaGreatDoorGNM
import Derived.Test.YtnibpknhpjcamaaGreatDoorGLM
import Derived.Deep.RegionHeld3
import Derived.Deep.AppendLies
import Derived.Deep.DeepCutAuto
import Derived.BigRegion
set_option maxRecDepth 100000
namespace Go.Proofs.YtnibpknhpjcamaaGreatDoor
open Go.RowKit

theorem eight (n : Int) : -8 < n.tmod 8 ∧ n.tmod 8 < 8 ∧ 0 ≤ (n.tmod 8 + 8).tmod 8 ∧ (n.tmod 8 + 8).tmod 8 < 8 := by
  have h1 : -8 < n.tmod 8 := by
    by_cases h : 0 ≤ n
    · have := Int.tmod_nonneg (a := n) 8 h; omega
    · have h5 := Int.tmod_lt_of_pos (-n) (b := 8) (by decide)
      rw [Int.neg_tmod] at h5
      omega
  have h0 := Int.tmod_lt_of_pos n (b := 8) (by decide)
  have h2 := Int.tmod_nonneg (a := n.tmod 8 + 8) 8 (by omega)
  have h3 := Int.tmod_lt_of_pos (n.tmod 8 + 8) (b := 8) (by decide)
  omega

/-- The log, the disk and what is to be put, between two rounds. -/
structure TornMid (w : World) (ll d g dc : Nat) (ia ka : Option Addr) (ic kc : Nat) (its : List PItem) (S SD : Nat → Prop) (L : PLog) (D : PDisk) (v : Value) (acc : List Ent) (wr : World) : Prop where
  log : LogIn w wr ll d S SD L D
  row : wr.ownsRow w.heap.size 37 3 v acc.length (entCells acc)
  deed : wr.ownsRow w.heap.size 68 4 (.slice (some ⟨g, 0, none⟩) 1 dc) 1 [.int .i64 0, .int .i64 0, .slice ia its.length ic, .slice ka 0 kc]
  items : wr.ownsRow w.heap.size 58 2 (.slice ia its.length ic) its.length (itemCells its)

theorem TornMid.push {w : World} {ll d g dc : Nat} {ia ka : Option Addr} {ic kc : Nat} {its : List PItem} {S SD : Nat → Prop} {L : PLog} {D : PDisk} {v v' : Value} {acc : List Ent} {wr wx w6 : World} (h : TornMid w ll d g dc ia ka ic kc its S SD L D v acc wr) (ha : Below wr.heap.size wr wx)
    (hg : wx.grownBy w6 v.ownBlock) {b n : Int} {t : List UInt8} (hown : w6.ownsRow w.heap.size 37 3 v' (acc.length + 1) (entCells acc ++ [.int .i64 b, .int .i64 n, .string (bs t)])) : TornMid w ll d g dc ia ka ic kc its S SD L D v' (acc ++ [⟨b, n, t⟩]) w6 := by
  obtain ⟨h1, _⟩ := h.log.grown ha h.row (Nat.le_refl _) (by decide) (by decide) (by decide) (by decide) (by decide) hg
  have hf := fr_grown hg
  refine ⟨h1, ?_, row_fr (own_bel h.deed ha) hf (fun k hk e => ?_), row_fr (own_bel h.items ha) hf (fun k hk e => ?_)⟩
  · rw [entCells_app2, List.length_append]; exact hown
  · rcases rows_apart h.row h.deed (by decide) with h9 | h9
    · rw [h9] at e; cases e
    · exact h9 (e.trans hk.symm)
  · rcases rows_apart h.row h.items (by decide) with h9 | h9
    · rw [h9] at e; cases e
    · exact h9 (e.trans hk.symm)

theorem own_cap {w : World} {base : Nat} {e : TypeId} {size : Nat} {ad : Option Addr} {n m cap : Nat} {xs : List Value} (h : w.ownsRow base e size (.slice ad m cap) n xs) : n ≤ cap ∧ m = n := by
  rcases h.2 with ⟨e1, hz⟩ | ⟨g, c, cur, e1, _, _, h3, _⟩
  · injection e1 with _ e2 e3
    omega
  · injection e1 with _ e2 e3
    omega

theorem Reads.first {w : World} {base : Nat} {e : TypeId} {size : Nat} {ad : Option Addr} {n m cap : Nat} {xs ys : List Value} (h : w.ownsRow base e size (.slice ad n cap) n (xs ++ ys)) (hx : xs.length = m * size) (hm : m ≤ n) : Reads w (.slice ad m cap) m size xs := by
  refine ⟨hx, ad, cap, rfl, fun j u hj => ?_⟩
  have hlt := (List.getElem?_eq_some_iff.1 hj).1
  have hpos : 0 < m := by
    rcases Nat.eq_zero_or_pos m with h9 | h9
    · subst h9; omega
    · exact h9
  obtain ⟨g, cp, e1⟩ := own_slice h (by omega)
  injection e1 with e2 _ e3
  subst e2
  refine ⟨g, rfl, ?_⟩
  have h9 := h.cellAt j (by have := Nat.mul_le_mul_right size hm; omega)
  rw [List.getElem?_append_left hlt] at h9
  rw [h9]; exact hj

/-- Behind the loop. -/
def TornEnd (w : World) (ll d g dc : Nat) (ia ka : Option Addr) (ic kc : Nat) (its : List PItem) (N : Int) (av : Value) (wx : World) : Prop :=
  ∃ (A2 : ALog) (X acc : List Ent) (S SD : Nat → Prop) (L : PLog) (D : PDisk) (v1 : Value), v1 = av ∧ TornMid w ll d g dc ia ka ic kc its S SD L D v1 acc wx ∧ Gone A2 L D N acc X ∧ acc.length ≤ 300000

/-- Between two rounds. -/
def TornRel (w : World) (ll d g dc : Nat) (ia ka : Option Addr) (ic kc : Nat) (its : List PItem) (N : Int) (c av : Value) (wr : World) : Prop :=
  ∃ (k : Nat) (A : ALog) (S SD : Nat → Prop) (D : PDisk) (v1 : Value), k ≤ 6 ∧ c = .int .i64 k ∧ v1 = av ∧ TornMid w ll d g dc ia ka ic kc its S SD A.toP D v1 A.all wr ∧ Dim A D N

theorem TornMid.below {w : World} {ll d g dc : Nat} {ia ka : Option Addr} {ic kc : Nat} {its : List PItem} {S SD : Nat → Prop} {L : PLog} {D : PDisk} {v : Value} {acc : List Ent} {wr w1 : World} (h : TornMid w ll d g dc ia ka ic kc its S SD L D v acc wr) (hb : Below wr.heap.size wr w1) :
    TornMid w ll d g dc ia ka ic kc its S SD L D v acc w1 := ⟨h.log.below hb, own_bel h.row hb, own_bel h.deed hb, own_bel h.items hb⟩

theorem TornMid.cells {w : World} {ll d g dc : Nat} {ia ka : Option Addr} {ic kc : Nat} {its : List PItem} {S SD : Nat → Prop} {L : PLog} {D : PDisk} {v : Value} {acc : List Ent} {wr : World} (h : TornMid w ll d g dc ia ka ic kc its S SD L D v acc wr) :
    wr.cell? ⟨g, 2, none⟩ = some (.slice ia its.length ic) ∧ g < wr.heap.size ∧ w.heap.size ≤ g ∧ ∀ j y, its[j]? = some y → ∃ ig, ia = some ⟨ig, 0, none⟩ ∧ ig < wr.heap.size ∧ wr.cell? ⟨ig, j * 2, none⟩ = some (.int .i64 y.n) ∧ wr.cell? ⟨ig, j * 2 + 1, none⟩ = some (.string (bs y.text)) := by
  refine ⟨by rw [h.deed.cellAt 2 (by omega)]; rfl, (h.deed.lt g rfl).2, (h.deed.lt g rfl).1, fun j y hj => ?_⟩
  obtain ⟨e0, e1⟩ := itemCells_at _ _ _ hj
  have hlt := (List.getElem?_eq_some_iff.1 hj).1
  have hit := h.items
  rcases Joins.ownsRow_forms hit with ⟨_, hz⟩ | ⟨ig, cap, he⟩
  · omega
  · injection he with he _ _
    subst he
    exact ⟨ig, rfl, (hit.lt ig rfl).2, by rw [hit.cellAt _ (by omega)]; exact e0, by rw [hit.cellAt _ (by omega)]; exact e1⟩

set_option maxHeartbeats 8000000 in
theorem torn_any {w : World} {v mv kv : Value} {l : List PDeed} {its0 : List PItem} {keep : List Int} (size fuse : Int) (h : InDeeds w v l) (hm : InRow w mv its0.length 2 (itemCells its0)) (hmt : ∀ y ∈ its0, y.text.length ≤ maxLen) (hk : InRow w kv keep.length 1 (keepCells keep)) :
    Calls Tryz.prog 7 #[.int .i64 size, v, .int .i64 fuse, mv, kv] w (AwakePost w) := by
  obtain ⟨i0, hi, hz0, hz1, hz2⟩ := info_parts Tryz.infoEntry
  obtain ⟨A, hA⟩ := madeL_is size l
  obtain ⟨f1, f2, f3, f4⟩ := eight fuse
  have hw1 : wrap64 (fuse.tmod 8 + 8) = fuse.tmod 8 + 8 := IntWalk.wrap64_in _ (by omega)
  have HA := hid hA
  have HI := hid h
  have HM := hid hm
  have HMT := hid hmt
  have HK := hid hk
  clear hA h hm hk f1 f2 hmt
  go_enter Tryz.func7, Tryz.ntmps7
  go_wp2_with fail
  refine (made_any size HI.out).mono ?_
  rintro e w1 ⟨ll, d, av, S, SD, rfl, hlog, hd, hrow, hS, hSD, hb⟩
  generalize madeL size l = r at HA hlog hd hrow
  obtain ⟨r1, D, acc⟩ := r
  have hdim : Dim A D (madeRoom size) := ⟨HA.out.good.inv, HA.out.disk, .inl HA.out.good.e, HA.out.name⟩
  obtain ⟨e1, _, _, e2, _⟩ := HA.out
  dsimp only at e1 e2 hlog hd hrow
  subst e1 e2
  clear HA HI
  generalize madeRoom size = N at hdim
  unfold ptr
  have HLI : Hid (LogIn w w1 ll d S SD A.toP D) := hid ⟨hlog, hd, hS, hSD, hb⟩
  have HROW := hid hrow
  have HDIM := hid hdim
  clear hlog hd hrow hS hSD hb hdim
  go_wp2_with fail
  clear hw1
  generalize (fuse.tmod 8 + 8).tmod 8 = fu at f3 f4 ⊢
  refine (fuse_any d SD D fu _ HLI.out.disk).mono ?_
  rintro e w2 ⟨rfl, hto⟩
  have hfm : max fu (-1) = fu := by omega
  rw [hfm] at hto
  have hdim2 : Dim A { D with fuse := fu } N := by
    have h9 := HDIM.out
    refine ⟨h9.inv.same rfl rfl rfl rfl, ?_, h9.e, h9.name⟩
    have hw9 := h9.wf
    exact ⟨hw9.sorted, hw9.ok, hw9.count, hw9.room, hw9.sum, hw9.size, by dsimp only; omega, by dsimp only; omega⟩
  obtain ⟨⟨S2, SD2, hli2⟩, hkp2⟩ := HLI.out.call (LogTo.disk HLI.out.log (Below.refl _ _) hto (fun k hk => HLI.out.log.apart HLI.out.disk hk))
  have HLI2 := hid hli2
  have HDIM2 := hid hdim2
  have HROW2 := hid (hkp2.row HROW.out (by decide) (by decide) (by decide) (by decide) (by decide))
  clear hto hli2 hkp2 HLI HROW HDIM hdim2 hfm f3 f4
  generalize ({ D with fuse := fu } : PDisk) = D2 at HLI2 HDIM2
  obtain ⟨mad, mcap, rfl⟩ : ∃ ad cap, mv = .slice ad its0.length cap := by
    obtain ⟨_, ad, cap, e, _⟩ := HM.out
    exact ⟨ad, cap, e⟩
  go_wp2_with fail
  have hba := bel_alloc (Below.refl w2.heap.size w2) (.cells #[.int .i64 0, .int .i64 0, .slice mad its0.length mcap, .slice none 0 0] 68)
  have hindeed : InDeeds (w2.alloc (.cells #[.int .i64 0, .int .i64 0, .slice mad its0.length mcap, .slice none 0 0] 68)) (.slice (some ⟨w2.heap.size, 0, none⟩) 1 1) [⟨0, 0, its0, []⟩] := by
    refine ⟨[⟨⟨0, 0, its0, []⟩, .slice mad its0.length mcap, .slice none 0 0⟩], rfl, ⟨rfl, _, _, rfl, Nat.le_refl _, by unfold maxLen; omega, fun j u hj => ⟨_, rfl, cells_new w2 _ _ j u hj⟩⟩, fun x hx => ?_⟩
    obtain rfl : x = ⟨⟨0, 0, its0, []⟩, .slice mad its0.length mcap, .slice none 0 0⟩ := by simpa using hx
    exact ⟨(HM.out.below HLI2.out.bel).below hba, ⟨rfl, none, 0, rfl, by simp, by unfold maxLen; omega, fun j u hj => by simp [keepCells] at hj⟩, HMT.out⟩
  have HIN := hid hindeed
  have HLI3 := hid (HLI2.out.below hba)
  have HROW3 := hid (own_bel HROW2.out hba)
  clear hba hindeed HLI2 HROW2 HM HMT
  generalize w2.alloc (.cells #[.int .i64 0, .int .i64 0, .slice mad its0.length mcap, .slice none 0 0] 68) = w3 at HIN HLI3 HROW3 ⊢
  refine (few_any HIN.out).mono ?_
  rintro e w4 ⟨rv, rfl, ⟨q, hq, hqr, hall⟩, hb4⟩
  have hmid : ∃ g dc ia ka ic kc, rv = .slice (some ⟨g, 0, none⟩) 1 dc ∧ TornMid w ll d g dc ia ka ic kc ((its0.take 8).map PItem.cut) S2 SD2 A.toP D2 av A.all w4 := by
    obtain ⟨x, rfl⟩ : ∃ x, q = [x] := by
      have hl := congrArg List.length hq
      rw [List.length_map] at hl
      match q, hl with
      | [x], _ => exact ⟨x, rfl⟩
    have hxd : x.d = PDeed.few ⟨0, 0, its0, []⟩ := by
      simp only [List.map_cons, List.map_nil, fewL, List.take_succ_cons, List.take_nil] at hq
      simpa using hq
    obtain ⟨hx1, hx2⟩ := hall x (by simp)
    obtain ⟨ka, kc, hxK⟩ : ∃ ka kc, x.K = .slice ka 0 kc := by
      obtain ⟨_, ka, kc, e, _⟩ := hx2
      rw [hxd] at e
      exact ⟨ka, kc, e⟩
    obtain ⟨ia, ic, hxL⟩ := row_slice hx1
    obtain ⟨g, cap, rfl⟩ := own_slice hqr (by simp)
    have hsz3 := HLI3.out.bel.size
    have hitl : x.d.its = (its0.take 8).map PItem.cut := by rw [hxd]; rfl
    refine ⟨g, cap, ia, ka, ic, kc, rfl, HLI3.out.below hb4, own_bel HROW3.out hb4, ?_, ?_⟩
    · have h9 := own_base (base' := w.heap.size) hqr hsz3
      have e9 : deedCells [x] = [.int .i64 0, .int .i64 0, .slice ia ((its0.take 8).map PItem.cut).length ic, .slice ka 0 kc] := by
        unfold deedCells
        rw [List.flatMap_cons, List.flatMap_nil, List.append_nil, hxK, hxL, hitl, hxd]; rfl
      rw [e9] at h9
      exact h9
    · have h9 := own_base (base' := w.heap.size) hx1 hsz3
      rw [hxL, hitl] at h9
      exact h9
  obtain ⟨g, dc, ia, ka, ic, kc, rfl, hmid⟩ := hmid
  have hil : ((its0.take 8).map PItem.cut).length ≤ 8 := by simp; omega
  have hit : ∀ y ∈ (its0.take 8).map PItem.cut, y.text.length ≤ 1500 := by
    intro y hy
    obtain ⟨z, _, rfl⟩ := List.mem_map.1 hy
    simp [PItem.cut]; omega
  generalize (its0.take 8).map PItem.cut = its at hmid hil hit
  have HMID := hid hmid
  have HIT := hid hit
  clear hq hqr hall hb4 hmid hit HIN HLI3 HROW3
  go_upto_block 0 with fail
  go_cut [13] (fun av wx => TornEnd w ll d g dc ia ka ic kc its N av wx)
  case first =>
    go_wp2_with fail
    go_loopw [16, 13] (fun c av wr => TornRel w ll d g dc ia ka ic kc its N c av wr) (fun c _ _ => 6 - (intOf c).toNat)
    case atStart => exact ⟨0, A, S2, SD2, D2, _, by omega, rfl, rfl, HMID.out, HDIM2.out⟩
    case round =>
      clear HMID HDIM2
      obtain ⟨k, A, S, SD, D, v1, hk, rfl, rfl, hmid, hdim⟩ := hrel
      have HMID := hid hmid
      have HDIM := hid hdim
      obtain ⟨d2, hgl, hgw, hat⟩ := hmid.cells
      have hacc := hdim.inv.count hdim.wf
      have HAT := hid hat
      clear hmid hdim hat
      have hend : TornEnd w ll d g dc ia ka ic kc its N v1 wr := ⟨A, [], A.all, S, SD, A.toP, D, v1, rfl, HMID.out, by have h9 := HDIM.out.gone []; rwa [List.append_nil] at h9, by omega⟩
      have HEND := hid hend
      clear hend
      by_cases hlt : k < 6
      · have hd1 : decide ((k : Int) < 6) = true := by simp; omega
        by_cases hne : 0 < its.length
        · have hd2 : decide (0 < its.length) = true := by simpa using hne
          obtain ⟨y0, hy0⟩ : ∃ y, its[0]? = some y := ⟨_, List.getElem?_eq_getElem hne⟩
          have hwf := HDIM.out.inv.wf HDIM.out.wf
          have hnx : A.toP.next = A.next := rfl
          have hne2 : its ≠ [] := fun h9 => by rw [h9] at hne; simp at hne
          have HNE2 := hid hne2
          have HY0 := hid hy0
          have HNX := hid hnx
          clear hne2 hy0 hnx
          go_wp2_with fail
          refine (next_any HMID.out.log.log).mono ?_
          rintro e w' ⟨rfl, rfl⟩
          rw [HNX.out]
          go_wp2_with fail
          refine (append_all (N := N) _ its HMID.out.log.log HMID.out.log.disk HDIM.out.wf hwf (Reads.of_own HMID.out.items) (by omega) (fun y hy => by have := HIT.out y hy; omega)).mono ?_
          rintro e w5 ⟨rfl, hto⟩
          rw [toP_append] at hto ⊢
          dsimp only at hto ⊢
          obtain ⟨⟨S5, SD5, hli5⟩, hkp⟩ := HMID.out.log.call hto
          have hmid5 : TornMid w ll d g dc ia ka ic kc its S5 SD5 (A.append D its).1.toP (A.append D its).2.1 v1 A.all w5 :=
            ⟨hli5, hkp.row HMID.out.row (by decide) (by decide) (by decide) (by decide) (by decide), hkp.row HMID.out.deed (by decide) (by decide) (by decide) (by decide) (by decide), hkp.row HMID.out.items (by decide) (by decide) (by decide) (by decide) (by decide)⟩
          have hout := HDIM.out.append HNE2.out
          have hfacts := hout.facts HY0.out
          generalize A.append D its = ap at hmid5 hfacts ⊢
          obtain ⟨A5, D5, rn, code⟩ := ap
          dsimp only at hmid5 hfacts ⊢
          have HM5 := hid hmid5
          have HFA := hid hfacts
          clear hto hli5 hkp hmid5 hout hfacts hwf
          clear HMID HEND HDIM d2 hgl HAT
          go_upto_region 11 with fail
          go_cut [20] (fun tv wx => ∃ tb : Bool, tv = .bool tb ∧ Below w5.heap.size w5 wx ∧ (code = 4 → tb = may0 y0) ∧ (code ≠ 4 → tb = false))
          case first =>
            obtain ⟨d2, hgl, _, hat⟩ := HM5.out.cells
            obtain ⟨ig, rfl, hil, p0, p1⟩ := hat 0 y0 HY0.out
            clear hat
            by_cases hc4 : code = 4
            · have hcb : (code == 4) = true := by simpa using hc4
              have HC := hid hc4
              clear hc4
              have p0 : w5.cell? ⟨ig, 0, none⟩ = some (.int .i64 y0.n) := p0
              have p1 : w5.cell? ⟨ig, 1, none⟩ = some (.string (bs y0.text)) := p1
              go_region_held3 (fun w' => w'.cell? ⟨g, 2, none⟩ = some (.slice (some ⟨ig, 0, none⟩) its.length ic) ∧ w'.cell? ⟨ig, 0, none⟩ = some (.int .i64 y0.n) ∧ w'.cell? ⟨ig, 1, none⟩ = some (.string (bs y0.text))) (go_keep)
                ((go_at_call 32; refine (may_any y0.n y0.text _).mono ?_; rintro e w6 ⟨rfl, hb6⟩; have HB6 := hid hb6; have e0 : w6.cell? ⟨g, 2, none⟩ = some (.slice (some ⟨ig, 0, none⟩) its.length ic) := (hb6.cell (p := ⟨g, 2, none⟩) (by simpa using hgl)).trans (by go_simp); have e1 : w6.cell? ⟨ig, 0, none⟩ = some (.int .i64 y0.n) := (hb6.cell (p := ⟨ig, 0, none⟩) (by simpa using hil)).trans (by go_simp); have e2 : w6.cell? ⟨ig, 1, none⟩ = some (.string (bs y0.text)) := (hb6.cell (p := ⟨ig, 1, none⟩) (by simpa using hil)).trans (by go_simp); clear hb6))
              go_wp2_with fail
              go_meet
              exact ⟨may0 y0, rfl, bel_next (bel_drewN _ _ 1) HB6.out, fun _ => rfl, fun h9 => absurd HC.out h9⟩
            · have hcb : (code == 4) = false := by simpa using hc4
              have HC := hid hc4
              clear hc4
              go_quiet (fail)
              go_wp2_with fail
              go_meet
              exact ⟨false, rfl, bel_drewN _ _ _, fun h9 => absurd h9 HC.out, fun _ => rfl⟩
          case rest =>
            obtain ⟨tb, rfl, hbx, ht4, htn⟩ := hcut
            rename World => wi
            have HM6 := hid (HM5.out.below hbx)
            have HT4 := hid ht4
            have HTN := hid htn
            have hact : ((code == 0) = true ∧ code = 0) ∨ ((code == 0) = false ∧ code ≠ 0) := by
              by_cases h9 : code = 0
              · exact .inl ⟨by simpa using h9, h9⟩
              · exact .inr ⟨by simpa using h9, h9⟩
            have HACT := hid hact
            clear hbx ht4 htn HM5 hact
            go_upto_block 2 with fail
            go_cut [13] (fun av wx => ∃ v2, v2 = av ∧ TornMid w ll d g dc ia ka ic kc its S5 SD5 A5.toP D5 v2 (if code = 0 ∨ tb = true then A.all ++ mkW A.next its else A.all) wx)
            case first =>
              go_wp2_with fail
              go_loopw [21, 17, 13] (fun c nv av wr => ∃ (j : Nat) (v2 : Value), j ≤ its.length ∧ (¬ (code = 0 ∨ tb = true) → j = 0) ∧ c = .int .i64 j ∧ nv = .int .i64 (sumW A.next (its.take j)) ∧ v2 = av ∧ TornMid w ll d g dc ia ka ic kc its S5 SD5 A5.toP D5 v2 (A.all ++ mkW A.next (its.take j)) wr)
                (fun c _ _ _ => its.length - (intOf c).toNat)
              case atStart => exact ⟨0, v1, by omega, fun _ => rfl, rfl, rfl, rfl, by simpa [mkW] using HM6.out⟩
              case round =>
                obtain ⟨j, v2, hj, hj0, rfl, rfl, rfl, hmid⟩ := hrel
                have HM7 := hid hmid
                have HJ0 := hid hj0
                obtain ⟨d2, hgl, _, hat⟩ := hmid.cells
                have hmw : (mkW A.next (its.take j)).length ≤ 8 := by rw [mkW_len, List.length_take]; omega
                have hln : (A.all ++ mkW A.next (its.take j)).length ≤ 270000 := by rw [List.length_append]; omega
                clear hmid hj0
                by_cases hjl : j < its.length
                · obtain ⟨y, hy⟩ : ∃ y, its[j]? = some y := ⟨_, List.getElem?_eq_getElem hjl⟩
                  obtain ⟨ig, rfl, hil2, p0, p1⟩ := hat j y hy
                  have HY := hid hy
                  have hj1 : (0 : Int) ≤ (j : Int) := Int.natCast_nonneg _
                  have hj2 : (j : Int) < (its.length : Int) := by omega
                  have hwl : w.heap.size ≤ wr.heap.size := HM7.out.log.bel.size
                  have ak1 : v2.ownBlock ≠ some g := fun e => by
                    rcases rows_apart HM7.out.row HM7.out.deed (by decide) with h9 | h9
                    · rw [h9] at e; cases e
                    · exact h9 e
                  have ak2 : v2.ownBlock ≠ some ig := fun e => by
                    rcases rows_apart HM7.out.row HM7.out.items (by decide) with h9 | h9
                    · rw [h9] at e; cases e
                    · exact h9 e
                  have ak1 := hid ak1
                  have ak2 := hid ak2
                  have HROW2 := hid HM7.out.row
                  clear hat hy
                  by_cases ha : code = 0 ∨ tb = true
                  · have HA9 := hid ha
                    have hway : ((code == 0) = true) ∨ ((code == 0) = false ∧ tb = true) := by
                      rcases HACT.out with h9 | h9
                      · exact .inl h9.1
                      · rcases ha with h10 | h10
                        · exact absurd h10 h9.2
                        · exact .inr ⟨h9.1, h10⟩
                    clear ha
                    rcases hway with hc0 | ⟨hc0, rfl⟩
                    all_goals
                      go_upto_region 15 with fail
                      go_region_held3 (fun w' => w'.cell? ⟨g, 2, none⟩ = some (.slice (some ⟨ig, 0, none⟩) its.length ic) ∧ w'.cell? ⟨ig, j * 2, none⟩ = some (.int .i64 y.n) ∧ w'.cell? ⟨ig, j * 2 + 1, none⟩ = some (.string (bs y.text)))
                        (first
                          | go_keep
                          | (go_split_ands
                             refine ⟨?_, ?_, ?_⟩
                             · (rw [hgrow.out.cell_far _ (by simp; omega) (Ne.symm ak1.out)]; assumption)
                             · (rw [hgrow.out.cell_far _ (by simp; omega) (Ne.symm ak2.out)]; assumption)
                             · (rw [hgrow.out.cell_far _ (by simp; omega) (Ne.symm ak2.out)]; assumption)))
                        ((refine step_append_lies _ (by rfl) _ _ _ (by rfl) w.heap.size 37 i0 _ 3 32 Tryz.underlying25 hi hz0 hz1 hz2 rfl (by omega) v2 (A.all ++ mkW A.next (its.take j)).length (entCells (A.all ++ mkW A.next (its.take j))) (by rfl) ((HROW2.out.alloc _).drew)
                            ⟨wr.heap.size, 0, none⟩ 1 1 [.int .i64 (sumW A.next (its.take j)), .int .i64 y.n, .string (bs y.text)] (by rfl) (by rfl) (World.news_of_block (cs := #[.int .i64 (sumW A.next (its.take j)), .int .i64 y.n, .string (bs y.text)]) (t := 37) (fr := (0, 0)) (heap_alloc_new wr _)) (by simp [Value.oneCell'])
                            (by omega) (by unfold maxLen; omega) (by omega) (by simp; omega) (wr.heap.size + 1) (by simp) ?_; intro gg cap7 w7 hown7 hgrow0 hat7 hlt7; have HOWN7 := hid hown7; have hgrow := hid hgrow0; clear hown7 hgrow0))
                      have g7 : w7.cell? ⟨g, 2, none⟩ = some (.slice (some ⟨ig, 0, none⟩) its.length ic) := (hgrow.out.cell_far _ (by simp; omega) (Ne.symm ak1.out)).trans (by go_simp)
                      have f7 : w7.cell? ⟨ig, j * 2, none⟩ = some (.int .i64 y.n) := (hgrow.out.cell_far _ (by simp; omega) (Ne.symm ak2.out)).trans (by go_simp)
                      clear d2 p0 p1
                      have HP := hid (HM7.out.push ((bel_alloc (Below.refl _ _) _).trans (bel_drewN _ _ 1)) hgrow.out HOWN7.out)
                      go_wp2_with fail
                      go_roundw
                      case rel =>
                        have ht : its.take (j + 1) = its.take j ++ [y] := by rw [List.take_add_one, HY.out]; rfl
                        refine ⟨j + 1, _, by omega, fun h => absurd (by first | exact HA9.out | exact .inr trivial) h, by go_num, ?_, rfl, ?_⟩
                        · rw [ht, sumW_snoc]
                        · rw [ht, mkW_snoc, ← List.append_assoc]
                          have h7 := HP.out
                          rw [List.length_append] at h7
                          exact h7
                      case measure => simp [intOf]; omega
                  · have hz : j = 0 := HJ0.out ha
                    have hc0 : (code == 0) = false := by
                      rcases HACT.out with h9 | h9
                      · exact absurd (.inl h9.2) ha
                      · exact h9.1
                    have ht0 : tb = false := by cases tb with
                      | false => rfl
                      | true => exact absurd (.inr rfl) ha
                    have HFIN : Hid (TornMid w ll d g dc (some ⟨ig, 0, none⟩) ka ic kc its S5 SD5 A5.toP D5 v2 (if code = 0 ∨ tb = true then A.all ++ mkW A.next its else A.all) wr) := hid (by
                      rw [if_neg ha]
                      have h9 := HM7.out
                      rw [hz] at h9
                      simpa [mkW] using h9)
                    clear ha hz
                    subst ht0
                    go_wp2_with fail
                    go_meet
                    exact ⟨_, rfl, HFIN.out⟩
                · have hjn : j = its.length := by omega
                  have HFIN : Hid (TornMid w ll d g dc ia ka ic kc its S5 SD5 A5.toP D5 v2 (if code = 0 ∨ tb = true then A.all ++ mkW A.next its else A.all) wr) := hid (by
                    have h9 := HM7.out
                    rw [hjn, List.take_length] at h9
                    split
                    · exact h9
                    · rename_i ha
                      have hz := HJ0.out ha
                      rw [hz] at hjn
                      omega)
                  subst hjn
                  go_wp2_with fail
                  go_meet
                  exact ⟨_, rfl, HFIN.out⟩
            case rest =>
              rename World => wj
              obtain ⟨v2, rfl, hmid⟩ := hcut
              have HM8 := hid hmid
              have hal8 : (if code = 0 ∨ tb = true then A.all ++ mkW A.next its else A.all).length ≤ 300000 := by
                split
                · rw [List.length_append, mkW_len]; omega
                · omega
              clear hmid HM6
              by_cases hc4 : code = 4
              · have hcb : (code == 4) = true := by simpa using hc4
                have HEND : Hid (TornEnd w ll d g dc ia ka ic kc its N v2 wj) := hid (by
                  obtain ⟨y1, y2⟩ := HFA.out.2.2 hc4
                  have hne0 : ¬ code = 0 := by omega
                  cases hb : tb with
                  | true =>
                    obtain ⟨A2, X, hg⟩ := y1
                    have h9 := HM8.out
                    rw [hb, if_pos (.inr rfl)] at h9 hal8
                    exact ⟨A2, X, _, S5, SD5, _, _, v2, rfl, h9, hg, hal8⟩
                  | false =>
                    obtain ⟨A2, X, hg⟩ := y2 (by rw [← HT4.out hc4, hb])
                    have h9 := HM8.out
                    rw [hb, if_neg (by rintro (h | h); exact hne0 h; cases h)] at h9 hal8
                    exact ⟨A2, X, _, S5, SD5, _, _, v2, rfl, h9, hg, hal8⟩)
                clear hc4 hal8
                go_wp2_with fail
                go_meet
                exact HEND.out
              · have hcb : (code == 4) = false := by simpa using hc4
                have htb : tb = false := HTN.out hc4
                have hdim5 : Dim A5 D5 N ∧ TornMid w ll d g dc ia ka ic kc its S5 SD5 A5.toP D5 v2 A5.all wj := by
                  have h9 := HM8.out
                  by_cases h0 : code = 0
                  · obtain ⟨g1, g2⟩ := HFA.out.1 h0
                    rw [if_pos (.inl h0), ← g2] at h9
                    exact ⟨g1, h9⟩
                  · obtain ⟨g1, g2⟩ := HFA.out.2.1 h0 hc4
                    rw [htb, if_neg (by rintro (h | h); exact h0 h; cases h), ← g2] at h9
                    exact ⟨g1, h9⟩
                have HD5 := hid hdim5
                clear hc4 htb hdim5 hal8 HM8 HFA HT4 HTN HACT
                have hk0 : (0 : Int) ≤ (k : Int) := Int.natCast_nonneg _
                by_cases hodd : (k : Int) % 2 = 1
                · have ho : ((k : Int) % 2 == 1) = true := by simpa using hodd
                  have hwf5 := HD5.out.1.inv.wf HD5.out.1.wf
                  clear hodd
                  go_wp2_with fail
                  refine (logSync_any HD5.out.2.log.log HD5.out.2.log.disk HD5.out.1.wf hwf5).mono ?_
                  rintro e w9 ⟨rfl, hto⟩
                  rw [toP_sync] at hto ⊢
                  dsimp only at hto ⊢
                  obtain ⟨⟨S9, SD9, hli9⟩, hkp⟩ := HD5.out.2.log.call hto
                  obtain ⟨hdim9, hall9⟩ := HD5.out.1.sync
                  have HREL : Hid (TornRel w ll d g dc ia ka ic kc its N (.int .i64 ((k + 1 : Nat) : Int)) v2 w9) := hid ⟨k + 1, (A5.sync D5).1, S9, SD9, (A5.sync D5).2.1, v2, by omega, rfl, rfl,
                    ⟨hli9, by rw [hall9]; exact hkp.row HD5.out.2.row (by decide) (by decide) (by decide) (by decide) (by decide), hkp.row HD5.out.2.deed (by decide) (by decide) (by decide) (by decide) (by decide), hkp.row HD5.out.2.items (by decide) (by decide) (by decide) (by decide) (by decide)⟩, hdim9⟩
                  clear hto hli9 hkp hdim9 hall9 hwf5
                  go_wp2_with fail
                  go_roundw
                  case rel => exact HREL.out
                  case measure => simp [intOf]; omega
                · have ho : ((k : Int) % 2 == 1) = false := by simpa using hodd
                  have HREL : Hid (TornRel w ll d g dc ia ka ic kc its N (.int .i64 ((k + 1 : Nat) : Int)) v2 wj) := hid ⟨k + 1, A5, S5, SD5, D5, v2, by omega, rfl, rfl, HD5.out.2, HD5.out.1⟩
                  clear hodd
                  go_wp2_with fail
                  go_roundw
                  case rel => exact HREL.out
                  case measure => simp [intOf]; omega
        · have hd2 : decide (0 < its.length) = false := by simpa using hne
          go_wp2_with fail
          go_meet
          exact HEND.out
      · have hd1 : decide ((k : Int) < 6) = false := by simp; omega
        go_wp2_with fail
        go_meet
        exact HEND.out
  case rest =>
    rename World => w5
    obtain ⟨A2, X, acc, S5, SD5, L5, D5, v5, rfl, hmid, hgone, haccl⟩ := hcut
    have HG := hid hgone
    have HLI := hid hmid.log
    have HROW := hid hmid.row
    clear hmid hgone HMID HDIM2 HIT
    obtain ⟨kad, kcap, rfl⟩ : ∃ ad cap, kv = .slice ad keep.length cap := by
      obtain ⟨_, ad, cap, e, _⟩ := HK.out
      exact ⟨ad, cap, e⟩
    have hk3 : keep.length ≤ kcap := by
      obtain ⟨_, ad, cap, e, h9, _⟩ := HK.out
      injection e with _ _ e
      omega
    have hkeep : ∃ keep', ((decide (70 < (keep.length : Int)) = true ∧ keep'.length = 70 ∧ 70 ≤ kcap) ∨ (decide (70 < (keep.length : Int)) = false ∧ keep'.length = keep.length)) ∧ InRow w (.slice kad keep'.length kcap) keep'.length 1 (keepCells keep') := by
      by_cases h9 : 70 < (keep.length : Int)
      · refine ⟨keep.take 70, .inl ⟨by simpa using h9, by rw [List.length_take]; omega, by omega⟩, ?_⟩
        obtain ⟨g1, ad, cap, e, g3, g4, g5⟩ := HK.out
        injection e with e1 e2 e3
        subst e1 e3
        refine ⟨by simp [keepCells], kad, kcap, rfl, by rw [List.length_take]; omega, g4, fun j u hu => g5 j u ?_⟩
        unfold keepCells at hu ⊢
        rw [List.map_take, List.getElem?_take] at hu
        split at hu
        · exact hu
        · cases hu
      · exact ⟨keep, .inr ⟨by simpa using h9, rfl⟩, HK.out⟩
    obtain ⟨keep2, hways, hkr⟩ := hkeep
    have hap : ∀ a m cap, (Value.slice kad keep2.length kcap) = .slice (some a) m cap → keepCells keep2 ≠ [] → a.block < w.heap.size := by
      intro a m cap e hne
      obtain ⟨g1, ad, cap2, e2, g3, g4, g5⟩ := hkr
      injection e with e1 _ _
      injection e2 with e3 _ _
      subst e1
      subst e3
      obtain ⟨u, hu⟩ : ∃ u, (keepCells keep2)[0]? = some u := by
        cases hc : keepCells keep2 with
        | nil => exact absurd hc hne
        | cons x l => exact ⟨x, rfl⟩
      obtain ⟨a2, ha2, hc2⟩ := g5 0 u hu
      injection ha2 with ha2
      subst ha2
      have hl := World.block_lt_of_cell? w _ hc2
      simpa [Addr.add] using hl
    obtain ⟨A3, D3, r3, o1, o2, o3, o4, o5, o6, o7, o8, o9, o10⟩ := HG.out.inv.reopen HG.out.wf keep2
    rw [HG.out.name] at o1
    have HKR := hid hkr
    have HAP := hid hap
    have HO := hid (And.intro o1 (And.intro o2 (And.intro o3 (And.intro o4 (And.intro o5 (And.intro o7 (And.intro o8 o9)))))))
    clear hkr hap o1 o2 o3 o4 o5 o6 o7 o8 o9 o10 HK
    rcases hways with ⟨hlt, hl70, hk70⟩ | ⟨hlt, hl70⟩
    all_goals
      rw [hl70] at HKR HAP
      go_wp2_with fail
      refine (sure_any HLI.out.log).mono ?_
      rintro e w' ⟨rfl, rfl⟩
      rw [HG.out.sure]
      go_wp2_with fail
      refine (crash_any d SD5 D5 N _ keep2 _ HLI.out.disk HG.out.wf (by rw [hl70]; exact HKR.out.below HLI.out.bel) (fun a m cap e hne hs => by have h1 := HAP.out a m cap e hne; have h2 := HLI.out.sd _ hs; omega)).mono ?_
      rintro e w6 ⟨rfl, hto⟩
      obtain ⟨⟨S6, SD6, hli6⟩, hkp⟩ := HLI.out.call (LogTo.disk HLI.out.log (Below.refl _ _) hto (fun k hk => HLI.out.log.apart HLI.out.disk hk))
      have HLI6 := hid hli6
      have HROW6 := hid (hkp.row HROW.out (by decide) (by decide) (by decide) (by decide) (by decide))
      clear hto hli6 hkp hl70
      go_wp2_with fail
      refine (open_any ⟨#[108, 111, 103]⟩ HLI6.out.disk (HG.out.wf.crash keep2) (by decide)).mono ?_
      rintro e w7 hp
      have htl : tl ⟨#[108, 111, 103]⟩ = [108, 111, 103] := rfl
      rw [htl, HO.out.1] at hp
      rcases hp with ⟨h9, _, _⟩ | ⟨_, l3, S3, SD3, rfl, hlog3, hd3, hfr3, hs3, hsd3⟩
      · exact absurd rfl h9
      have hli7 : LogIn w w7 l3 d S3 SD3 A3.toP D3 := by
        have hsz := HLI6.out.bel.size
        refine ⟨hlog3, hd3, fun i hi => by have := hs3 i hi; omega, fun i hi => ?_, HLI6.out.bel.trans (hfr3.to_below hsz (fun i hi h9 => by have := HLI6.out.sd i h9; omega))⟩
        rcases hsd3 i hi with h9 | h9
        · exact HLI6.out.sd i h9
        · omega
      have HLI7 := hid hli7
      have HROW7 := hid (row_fr HROW6.out hfr3 (fun i hi h9 => row_disk HROW6.out HLI6.out.disk (by decide) (by decide) i hi h9))
      clear hlog3 hd3 hfr3 hs3 hsd3 hli7 HROW6 HLI6 HROW HLI htl
      unfold ptr
      obtain ⟨va, vc, rfl⟩ := row_slice HROW7.out
      have hcap := (own_cap HROW7.out).1
      obtain ⟨_, o2, o3, o4, o5, o7, o8, o9⟩ := HO.out
      have hdl : decide (A3.toP.next < A2.sure) = false := by
        have h9 : A3.toP.next = A3.next := rfl
        simp; omega
      have hsn : A3.toP.sure = A3.toP.next := o4
      have hacc : acc = A3.all ++ (r3 ++ X) := by rw [HG.out.all, o2, List.append_assoc]
      have hle : A3.all.length ≤ acc.length := by rw [hacc, List.length_append]; omega
      have HS := hid (And.intro hsn (And.intro hacc (And.intro o7 (And.intro o8 (And.intro o9 o5)))))
      have HC := hid o7.all_chain
      clear o2 o3 o4 o5 o7 o8 o9 hsn hacc
      go_wp2_with fail
      refine (next_any HLI7.out.log).mono ?_
      rintro e w' ⟨rfl, rfl⟩
      go_wp2_with fail
      refine (sure_any HLI7.out.log).mono ?_
      rintro e w' ⟨rfl, rfl⟩
      rw [HS.out.1]
      go_wp2_with fail
      refine (next_any HLI7.out.log).mono ?_
      rintro e w' ⟨rfl, rfl⟩
      go_wp2_with fail
      refine (every_any 7 A3.all HLI7.out.log HLI7.out.disk HS.out.2.2.2.1 (HS.out.2.2.1.wf HS.out.2.2.2.1) (fun o => HS.out.2.2.1.fetch_pos HS.out.2.2.2.1 HS.out.2.2.2.2.1 o) ⟨by decide, by decide⟩ HC.out.1 HC.out.2 (by omega) (every_spec HS.out.2.2.1 HS.out.2.2.2.1 HS.out.2.2.2.2.1 HS.out.2.2.2.2.2 ⟨by decide, by decide⟩).1).mono ?_
      rintro e w8 ⟨v8, rfl, hrow8, hb8⟩
      have HROW8 := hid hrow8
      have HRA := hid (own_bel HROW7.out hb8)
      have HB8 := hid (bel_next HLI7.out.bel hb8)
      obtain ⟨xa, xc, rfl⟩ := row_slice hrow8
      clear hrow8 hb8
      have hd5 : decide (A3.all.length ≤ acc.length) = true := by simpa using hle
      have hd6 : A3.all.length ≤ vc := by omega
      go_wp2_with fail
      refine (same_yes (l := A3.all) (Reads.of_own HROW8.out) (Reads.first (m := A3.all.length) (ys := entCells (r3 ++ X)) (by rw [← entCells_app2, ← HS.out.2.1]; exact HRA.out) (entCells_len _) hle) (by omega)).mono ?_
      rintro e w9 ⟨rfl, n9, rfl⟩
      have HB9 := hid (HB8.out.trans (bel_drewN w.heap.size w8 n9))
      generalize w8.drewN n9 = w9 at HB9 ⊢
      go_wp2_with fail
      refine (awake_any _).mono ?_
      rintro e w10 ⟨rfl, hb10⟩
      have HB10 := hid (bel_next HB9.out hb10)
      clear hb10
      go_wp2_with fail
      go_ret
      exact ⟨rfl, HB10.out⟩
end Go.Proofs.YtnibpknhpjcamaaGreatDoor
