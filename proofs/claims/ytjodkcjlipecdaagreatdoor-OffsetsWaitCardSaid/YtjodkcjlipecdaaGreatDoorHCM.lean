/-
  Offsets on a disk with room: each note is written; what is pending of one: plain. No conditions.
  OffsetsWait: the walk. No conditions but deeds that read.
-/
import Derived.Test.YtjodkcjlipecdaaGreatDoorGQM
import Derived.Test.YtjodkcjlipecdaaGreatDoorGZM
set_option maxRecDepth 100000
namespace Go.Proofs.YtjodkcjlipecdaaGreatDoor
open Go.RowKit

/-- A disk that has room behind so many notes. -/
def Roomy (k : Nat) (A : ALog) (D : PDisk) : Prop := D.fuse = -1 ∧ 1000 ≤ D.room + 4 * k ∧ D.files.length ≤ 3 * k ∧ A.next ≤ k

theorem putF_len_le (l : List PFile) (f : PFile) : (putF l f).length ≤ l.length + 1 := by
  induction l with
  | nil => simp [putF]
  | cons g l ih =>
    rw [putF]
    split
    · simp
    · split
      · simp only [List.length_cons]; omega
      · simp

theorem burn_fuse {D : PDisk} (h : D.fuse = -1) : D.burn.1 = D := by
  unfold PDisk.burn
  rw [if_neg (by omega), if_neg (by omega)]

theorem dsame (D : PDisk) : D.room ≤ D.room + 4 ∧ D.files.length ≤ D.files.length + 1 ∧ D.files.length ≤ D.files.length + 2 := ⟨by omega, by omega, by omega⟩
theorem no5 {c : Int} (h : c = 0 ∨ c = 1 ∨ c = 3 ∨ c = 4) : c ≠ 5 := by omega

theorem PDisk.append_room {D : PDisk} {nm t : List UInt8} (hf : D.fuse = -1) (ht : t.length ≤ 130) :
    (D.append nm t).1.fuse = -1 ∧ D.room ≤ (D.append nm t).1.room + 4 ∧ (D.append nm t).1.files.length ≤ D.files.length + 1 ∧ ((D.append nm t).2 = 5 → D.room < 4 ∨ 256 ≤ D.files.length) := by
  unfold PDisk.append
  split
  · rename_i hr
    refine ⟨hf, (dsame D).1, (dsame D).2.1, fun h5 => ?_⟩
    dsimp only at h5
    unfold PDisk.ready at h5
    split at h5
    · split at h5 <;> omega
    · omega
  · have hb : ∀ f : PFile, blk (↑f.size + ↑t.length) - blk ↑f.size ≤ 4 := by
      intro f
      unfold blk
      split <;> split <;> omega
    have hb0 : blk (t.length : Int) ≤ 4 := by unfold blk; split <;> omega
    dsimp only
    cases hl : D.look nm with
    | none =>
      simp only [true_and]
      split
      · rename_i h9
        refine ⟨hf, (dsame D).1, (dsame D).2.1, fun _ => ?_⟩
        rcases h9 with h9 | h9
        · exact .inl (by omega)
        · exact .inr h9
      · have := putF_len_le D.files { name := nm, sure := [], loose := [] ++ t }
        rw [burn_fuse (by exact hf)]
        refine ⟨hf, ?_, this, fun h5 => ?_⟩
        · show D.room ≤ D.room - blk ↑t.length + 4
          omega
        · exfalso
          split at h5
          · exact no5 (.inl rfl) h5
          · exact no5 (.inr (.inr (.inr rfl))) h5
    | some f =>
      have hbf := hb f
      simp only [reduceCtorEq, false_and, or_false]
      split
      · rename_i h9
        exact ⟨hf, (dsame D).1, (dsame D).2.1, fun _ => .inl (by omega)⟩
      · have := putF_len_le D.files { f with loose := f.loose ++ t }
        rw [burn_fuse (by exact hf)]
        refine ⟨hf, ?_, this, fun h5 => ?_⟩
        · show D.room ≤ D.room - _ + 4
          omega
        · exfalso
          split at h5
          · exact no5 (.inl rfl) h5
          · exact no5 (.inr (.inr (.inr rfl))) h5

theorem PDisk.sync_room {D : PDisk} {nm : List UInt8} (hf : D.fuse = -1) :
    (D.sync nm).1.fuse = -1 ∧ D.room ≤ (D.sync nm).1.room ∧ (D.sync nm).1.files.length ≤ D.files.length + 1 := by
  unfold PDisk.sync PDisk.work
  split
  · exact ⟨hf, Int.le_refl _, (dsame _).2.1⟩
  · split
    · exact ⟨hf, Int.le_refl _, (dsame _).2.1⟩
    · rename_i f hl
      rw [burn_fuse hf]
      split
      · exact ⟨hf, Int.le_refl _, putF_len_le _ _⟩
      · exact ⟨hf, Int.le_refl _, (dsame _).2.1⟩

theorem PDisk.sync_code (D : PDisk) (nm : List UInt8) : (D.sync nm).2 ≠ 5 := by
  unfold PDisk.sync PDisk.work
  split
  · unfold PDisk.ready
    split
    · split
      · exact no5 (.inr (.inr (.inr rfl)))
      · exact no5 (.inl rfl)
    · exact no5 (.inr (.inl rfl))
  · split
    · exact no5 (.inr (.inr (.inl rfl)))
    · split
      · exact no5 (.inl rfl)
      · exact no5 (.inr (.inr (.inr rfl)))

theorem ALog.sync_room {A : ALog} {D : PDisk} (hf : D.fuse = -1) :
    (A.sync D).2.1.fuse = -1 ∧ D.room ≤ (A.sync D).2.1.room ∧ (A.sync D).2.1.files.length ≤ D.files.length + 1 := by
  unfold ALog.sync
  split
  · exact ⟨hf, Int.le_refl _, (dsame _).2.1⟩
  · split
    · exact ⟨hf, Int.le_refl _, (dsame _).2.1⟩
    · exact PDisk.sync_room hf

theorem ALog.sync_code {A : ALog} {D : PDisk} (he : A.e = 0) : (A.sync D).2.2 ≠ 5 := by
  unfold ALog.sync
  split
  · rw [he]; exact no5 (.inl rfl)
  · rw [if_neg (by rw [he]; decide)]
    exact PDisk.sync_code D _

theorem ALog.put_room {A : ALog} {D : PDisk} {s : ASeg} {before : List ASeg} {ents : List Ent} (hf : D.fuse = -1) (ht : (layText ents).length ≤ 130) :
    (A.put D s before ents).2.1.fuse = -1 ∧ D.room ≤ (A.put D s before ents).2.1.room + 4 ∧ (A.put D s before ents).2.1.files.length ≤ D.files.length + 1 ∧ ((A.put D s before ents).2.2.2 = 5 → D.room < 4 ∨ 256 ≤ D.files.length) := by
  obtain ⟨h1, h2, h3, h4⟩ := PDisk.append_room (nm := segName A.name s.base) hf ht
  unfold ALog.put
  dsimp only
  split
  · rename_i h5
    exact ⟨h1, h2, h3, fun _ => h4 h5⟩
  · split
    · rename_i h5 _
      exact ⟨h1, h2, h3, fun h9 => absurd h9 h5⟩
    · exact ⟨h1, h2, h3, fun h9 => absurd h9 (show ¬ ((0 : Int) = 5) by decide)⟩

theorem ALog.appendE_room {A : ALog} {D : PDisk} {ents : List Ent} (he : A.e = 0) (hf : D.fuse = -1) (ht : (layText ents).length ≤ 130) :
    (A.appendE D ents).2.1.fuse = -1 ∧ D.room ≤ (A.appendE D ents).2.1.room + 4 ∧ (A.appendE D ents).2.1.files.length ≤ D.files.length + 2 ∧ ((A.appendE D ents).2.2.2 = 5 → D.room < 4 ∨ 255 ≤ D.files.length) := by
  unfold ALog.appendE
  split
  · obtain ⟨h1, h2, h3, h4⟩ := ALog.put_room (A := A) (D := D) (s := ‹_›) (before := A.segs.dropLast) hf ht
    exact ⟨h1, h2, by omega, fun h => by have := h4 h; omega⟩
  · split
    · obtain ⟨h1, h2, h3, h4⟩ := ALog.put_room (A := A) (D := D) (s := ⟨A.next, []⟩) (before := []) hf ht
      exact ⟨h1, h2, by omega, fun h => by have := h4 h; omega⟩
    · obtain ⟨g1, g2, g3⟩ := ALog.sync_room (A := A) hf
      have g4 := ALog.sync_code (A := A) (D := D) he
      dsimp only
      split
      · exact ⟨g1, by show D.room ≤ (A.sync D).2.1.room + 4; omega, by show (A.sync D).2.1.files.length ≤ _; omega, fun h => absurd h g4⟩
      · obtain ⟨h1, h2, h3, h4⟩ := ALog.put_room (A := (A.sync D).1) (D := (A.sync D).2.1) (s := ⟨A.next, []⟩) (before := A.segs) g1 ht
        refine ⟨h1, by omega, by omega, fun h => ?_⟩
        have := h4 h
        omega

theorem ent_short {b : Int} {n : PNote} (h0 : 0 ≤ b) (h1 : b ≤ 1099511627776) (h : ∀ x ∈ n.nums, 0 ≤ x ∧ x ≤ 1099511627776) : (Ent.mk b 1 n.text).lay.length ≤ 130 := by
  have ht := text_len h
  have a1 := putL_short h0 h1
  have a2 := putL_short (n := 1) (by decide) (by decide)
  have e1 : (putAllL [b, 1] ++ n.text).length ≤ 42 := by
    simp only [putAllL, List.map_cons, List.map_nil, List.flatten_cons, List.flatten_nil, List.length_append, List.length_nil]
    omega
  have a3 := putL_short (n := ((putAllL [b, 1] ++ n.text).length : Int)) (by omega) (by omega)
  unfold Ent.lay
  rw [sealL_len]
  unfold putTextL
  rw [List.length_append]
  dsimp only
  omega

theorem lay_one {b : Int} {n : PNote} (h0 : 0 ≤ b) (h1 : b + 1 ≤ 1099511627776) (h : ∀ x ∈ n.nums, 0 ≤ x ∧ x ≤ 1099511627776) : layAll b [⟨1, n.text⟩] [] = (0, [⟨b, 1, n.text⟩], b + 1) := by
  have ht := text_len h
  rw [layAll, if_pos (show (Ent.mk b 1 n.text).ok from ⟨h0, by show b ≤ _; omega, by show (1 : Int) ≤ 1; omega, by show (1 : Int) ≤ 64; omega, by show n.text.length ≤ 65536; omega⟩)]
  rw [if_neg (by dsimp only; omega), layAll]
  rfl

/-- With room, what fits is written. -/
theorem OGood.write_room {parts : Nat} {N : Int} {O O' : POff} {A : ALog} {D : PDisk} {n : PNote} {k : Nat} (h : OGood parts N O A D) (hr : Roomy k A D) (hk : k ≤ 80) (hp : parts ≤ 4) (hf : O.fold n = some O') (hfr : n.fresh O) :
    ∃ A' D', O.write A.toP D n = (O', A'.toP, D', 0) ∧ OGood parts N O' A' D' ∧ Roomy (k + 1) A' D' := by
  obtain ⟨r1, r2, r3, r4⟩ := hr
  have hn0 := h.next0
  have hnum := fold_nums (by have := h.len; omega) hf
  have hlay := lay_one (b := A.next) hn0 (by omega) hnum
  have happ : A.append D [⟨1, n.text⟩] = A.appendE D [⟨A.next, 1, n.text⟩] := by
    unfold ALog.append
    rw [if_neg (by simp), if_neg (by rw [h.e]; decide), hlay, if_neg (fun h9 => h9 rfl)]
  have hroom := ALog.appendE_room (A := A) (D := D) (ents := [⟨A.next, 1, n.text⟩]) h.e r1 (by
    rw [layText_one]
    exact ent_short hn0 (by omega) hnum)
  rw [← happ] at hroom
  have hw := h.write hp hf hfr
  have hcode : (O.write A.toP D n).2.2.2 = 0 ∧ (O.write A.toP D n).2.2.1.fuse = -1 ∧ 1000 ≤ (O.write A.toP D n).2.2.1.room + 4 * (k + 1 : Nat) ∧ (O.write A.toP D n).2.2.1.files.length ≤ 3 * (k + 1) := by
    have hwf : (A.toP.append D [⟨1, n.text⟩]).2.1.WF N := PLog.append_disk h.wf _
    have ho := h.inv.append_out h.wf h.e [⟨1, n.text⟩]
    unfold POff.write
    rw [toP_append] at hwf ⊢
    generalize A.append D [⟨1, n.text⟩] = r at ho hwf hroom ⊢
    cases ho with
    | ok A' D' inv name all next chain first e sure own' off fuse ents =>
      dsimp only at hwf hroom ⊢
      rw [if_neg (by decide), toP_sync]
      have hs := inv.sync_out hwf e
      obtain ⟨g1, g2, g3⟩ := ALog.sync_room (A := A') hroom.1
      generalize A'.sync D' = s at hs g1 g2 g3 ⊢
      cases hs with
      | ok A2 D2 inv2 name2 segs2 e2 sure2 room2 len2 own2 off2 fuse2 =>
        dsimp only at g1 g2 g3 ⊢
        rw [if_neg (by decide)]
        exact ⟨rfl, g1, by dsimp only; omega, by dsimp only; omega⟩
      | dark D2 inv2 off2 was2 =>
        exfalso
        rcases was2 with h9 | h9
        · rw [off] at h9; cases h9
        · have := hroom.1; omega
    | full A' D' inv name segs e sure room len own' off fuse =>
      exfalso
      have := hroom.2.2.2 rfl
      omega
    | bad c why =>
      exfalso
      rcases why with ⟨h9, _⟩ | ⟨_, h9, h10⟩
      · cases h9
      · rw [hlay] at h9
        dsimp only at h9
        omega
    | dark A' A2 D' inv name name2 segs sure sure' e chain max all off was first =>
      exfalso
      rcases was with h9 | h9
      · rw [h.off] at h9; cases h9
      · omega
  generalize O.write A.toP D n = r at hw hcode
  cases hw with
  | ok A' D' good fuse next =>
    obtain ⟨_, c2, c3, c4⟩ := hcode
    exact ⟨A', D', rfl, good, c2, c3, c4, by rw [next]; omega⟩
  | no A' D' c good hc fuse => exact absurd hcode.1 hc
  | dark A' D' dark was => exact absurd hcode.1 (show ¬ ((4 : Int) = 0) by decide)

theorem Roomy.more {k : Nat} {A : ALog} {D : PDisk} (h : Roomy k A D) : Roomy (k + 1) A D := by
  obtain ⟨h1, h2, h3, h4⟩ := h
  exact ⟨h1, by omega, by omega, by omega⟩

/-- A call's outcome on a disk with room. -/
def RoomOut (parts : Nat) (N : Int) (k : Nat) (r : POff × PLog × PDisk × Int) : Prop := ∃ A', r.2.1 = A'.toP ∧ OGood parts N r.1 A' r.2.2.1 ∧ Roomy k A' r.2.2.1

theorem OGood.does_room {parts : Nat} {N : Int} {O : POff} {A : ALog} {D : PDisk} {k : Nat} (h : OGood parts N O A D) (hr : Roomy k A D) (hk : k ≤ 80) (hp : parts ≤ 4) (x : ODeed) : RoomOut parts N (k + 1) (O.does A.toP D x) := by
  rcases does_or O A.toP D x with ⟨c, h1⟩ | ⟨n, O', h1, h2, _, h3, _⟩
  · rw [h1]; exact ⟨A, rfl, h, hr.more⟩
  · obtain ⟨A', D', g1, g2, g3⟩ := h.write_room hr hk hp h1 h2
    rw [h3, g1]; exact ⟨A', rfl, g2, g3⟩

/-- Something of a producer is pending of a partition. -/
structure Held (O : POff) (pid part tov : Int) : Prop where
  is : ∃ x l, O.ofPart part = x :: l ∧ x.pid = pid ∧ x.epoch = 1099511627776 ∧ x.off = tov
  num : isNum tov
  part : O.isPart part

/-- What Pend comes to, if it tells that all is well. -/
theorem OGood.pend_held {parts : Nat} {N : Int} {O : POff} {A : ALog} {D : PDisk} {k : Nat} (h : OGood parts N O A D) (hr : Roomy k A D) (hk : k ≤ 80) (hp : parts ≤ 4) {pid part tov : Int} (hpid : 1 ≤ pid ∧ pid ≤ 8) (hpart : O.isPart part)
    (hc : (O.pendOne A.toP D pid 1099511627776 part (O.at part) tov).2.2.2 = 0) :
    ∃ O1 A1 D1, O.pendOne A.toP D pid 1099511627776 part (O.at part) tov = (O1, A1.toP, D1, 0) ∧ OGood parts N O1 A1 D1 ∧ Roomy (k + 1) A1 D1 ∧ Held O1 pid part tov ∧ O1.at part = O.at part := by
  have hpr : isProd pid 1099511627776 := ⟨hpid.1, hpid.2, by decide, by decide⟩
  have hat : isNum (O.at part) := by
    have h1 := hpart
    unfold POff.isPart at h1
    have h2 : part.toNat < O.com.length := by omega
    have h3 : O.at part = O.com[part.toNat] := by unfold POff.at; simp [List.getD_eq_getElem?_getD, h2]
    rw [h3]; exact h.ok.com _ (List.getElem_mem h2)
  rcases pend_or O A.toP D pid 1099511627776 part (O.at part) tov with ⟨c, h1⟩ | ⟨O', h1, h2, _, h3⟩
  · rw [h1] at hc ⊢
    dsimp only at hc
    subst hc
    -- nothing was written: it was pending already
    refine ⟨O, A, D, rfl, h, hr.more, ?_, rfl⟩
    by_cases hto : isNum tov
    · refine ⟨?_, hto, hpart⟩
      have h4 := congrArg (fun r => r.2.2.2) h1
      have hwr : ∀ n, O.write A.toP D n = (O, A.toP, D, 0) → ∀ O', O.fold n = some O' → n.fresh O → O' = O := by
        intro n e O' e1 e2
        obtain ⟨A', D', g1, _⟩ := h.write_room hr hk hp e1 e2
        rw [e] at g1
        simp only [Prod.mk.injEq] at g1
        exact g1.1.symm
      unfold POff.pendOne at h4
      rw [if_neg (by intro h9; exact h9 ⟨hpr, hpart, hat, hto⟩), if_neg (by show ¬ (A.e ≠ 0); rw [h.e]; decide)] at h4
      cases hof : O.ofPart part with
      | cons x l =>
        rw [hof] at h4
        dsimp only at h4
        unfold PPend.told at h4
        refine ⟨x, l, rfl, ?_⟩
        split at h4
        · simp at h4
        · rename_i h5
          split at h4
          · rename_i h6
            exact ⟨Classical.not_not.1 h5, h6.1, h6.2.1⟩
          · simp at h4
      | nil =>
        exfalso
        rw [hof] at h4
        dsimp only at h4
        rw [if_neg (by simp)] at h4
        split at h4
        · simp at h4
        · rename_i h6
          have hfo : O.fold ⟨2, pid, 1099511627776, part, tov⟩ = some { O with pend := O.pend ++ [⟨pid, 1099511627776, part, tov⟩] } := by
            unfold POff.fold
            rw [if_neg (show ¬ ((2 : Int) = 1) by decide), if_pos rfl, if_neg]
            rintro (h9 | h9 | h9 | h9 | h9)
            · exact h9 hpr
            · exact h9 hpart
            · exact h9 hto
            · exact h6 h9
            · exact h9 hof
          have hp1 : O.pendOne A.toP D pid 1099511627776 part (O.at part) tov = O.write A.toP D ⟨2, pid, 1099511627776, part, tov⟩ := by
            unfold POff.pendOne
            rw [if_neg (by intro h9; exact h9 ⟨hpr, hpart, hat, hto⟩), if_neg (by show ¬ (A.e ≠ 0); rw [h.e]; decide), hof]
            dsimp only
            rw [if_neg (by simp), if_neg h6]
          have h7 := hwr _ (by rw [← hp1, h1]) _ hfo (fun h => (by cases h))
          have h8 := congrArg (fun o => o.pend.length) h7
          simp at h8
    · exfalso
      have h4 := congrArg (fun r => r.2.2.2) h1
      unfold POff.pendOne at h4
      rw [if_pos (by intro h9; exact hto h9.2.2.2)] at h4
      simp at h4
  · obtain ⟨A', D', g1, g2, g3⟩ := h.write_room hr hk hp h1 h2
    rw [h3, g1]
    refine ⟨O', A', D', rfl, g2, g3, ?_⟩
    unfold POff.fold at h1
    rw [if_neg (show ¬ ((2 : Int) = 1) by decide), if_pos rfl] at h1
    split at h1
    · cases h1
    · rename_i hn
      injection h1 with h1
      subst h1
      have hof : O.ofPart part = [] := Decidable.byContradiction fun h9 => hn (.inr (.inr (.inr (.inr h9))))
      have hto : isNum tov := Decidable.byContradiction fun h9 => hn (.inr (.inr (.inl h9)))
      refine ⟨⟨⟨⟨pid, 1099511627776, part, tov⟩, [], ?_, rfl, rfl, rfl⟩, hto, hpart⟩, rfl⟩
      unfold POff.ofPart at hof ⊢
      rw [List.filter_append, hof]
      simp

theorem Held.fetch {O : POff} {pid part tov : Int} (h : Held O pid part tov) {L : PLog} (he : L.e = 0) : O.fetch L part = (0, 10) := by
  obtain ⟨⟨x, l, h1, _⟩, _, h2⟩ := h
  unfold POff.fetch
  rw [if_neg (fun h9 => h9 h2), if_neg (by rw [he]; decide), if_pos (by rw [h1]; simp)]

theorem Held.other {O : POff} {pid part tov : Int} (h : Held O pid part tov) (hpid : pid ≠ 5) {L : PLog} (D : PDisk) (he : L.e = 0) {frm : Int} (hf : isNum frm) : O.pendOne L D 5 3 part frm tov = (O, L, D, 10) := by
  obtain ⟨⟨x, l, h1, h3, _⟩, h4, h2⟩ := h
  unfold POff.pendOne
  rw [if_neg (fun h9 => h9 ⟨by decide, h2, hf, h4⟩), if_neg (by rw [he]; decide), h1]
  dsimp only
  unfold PPend.told
  rw [if_pos (by rw [h3]; exact hpid)]

theorem Held.again {O : POff} {pid part tov : Int} (h : Held O pid part tov) (hp : 1 ≤ pid ∧ pid ≤ 8) {L : PLog} (D : PDisk) (he : L.e = 0) (hf : isNum (O.at part)) : O.pendOne L D pid 1099511627776 part (O.at part) tov = (O, L, D, 0) := by
  obtain ⟨⟨x, l, h1, h3, h5, h6⟩, h4, h2⟩ := h
  unfold POff.pendOne
  rw [if_neg (fun h9 => h9 ⟨⟨hp.1, hp.2, by decide, by decide⟩, h2, hf, h4⟩), if_neg (by rw [he]; decide), h1]
  dsimp only
  unfold PPend.told
  rw [if_neg (fun h9 => h9 h3), if_pos ⟨h5, h6, rfl⟩]

theorem Held.next {O : POff} {pid part tov : Int} (h : Held O pid part tov) (hp : 1 ≤ pid ∧ pid ≤ 8) {L : PLog} (D : PDisk) (he : L.e = 0) (hf : isNum (O.at part)) : O.pendOne L D pid 1099511627776 part (O.at part) (tov + 1) = (O, L, D, if tov = 1099511627776 then 1 else 9) := by
  obtain ⟨⟨x, l, h1, h3, h5, h6⟩, h4, h2⟩ := h
  unfold POff.pendOne
  unfold isNum at h4
  by_cases hto : tov = 1099511627776
  · rw [if_pos (by intro h9; have := h9.2.2.2; unfold isNum at this; omega), if_pos hto]
  · rw [if_neg (fun h9 => h9 ⟨⟨hp.1, hp.2, by decide, by decide⟩, h2, hf, by unfold isNum; omega⟩), if_neg (by rw [he]; decide), h1, if_neg hto]
    dsimp only
    unfold PPend.told
    rw [if_neg (fun h9 => h9 h3), if_neg (by rintro ⟨_, h9, _⟩; omega)]

/-- The transaction's end. -/
theorem OGood.done_held {parts : Nat} {N : Int} {O : POff} {A : ALog} {D : PDisk} {k : Nat} (h : OGood parts N O A D) (hr : Roomy k A D) (hk : k ≤ 80) (hp : parts ≤ 4) {pid part tov : Int} (hpid : 1 ≤ pid ∧ pid ≤ 8) (hh : Held O pid part tov) (yes : Bool) :
    ∃ O1 A1 D1, O.done A.toP D pid 1099511627776 yes = (O1, A1.toP, D1, 0) ∧ OGood parts N O1 A1 D1 ∧ O1.fetch A1.toP part = (if yes then tov else O.at part, 0) := by
  have hpr : isProd pid 1099511627776 := ⟨hpid.1, hpid.2, by decide, by decide⟩
  obtain ⟨⟨x, l, h1, h3, h5, h6⟩, h4, h2⟩ := hh
  have hx : x ∈ O.pend ∧ x.part = part := by
    have : x ∈ O.ofPart part := by rw [h1]; simp
    unfold POff.ofPart at this
    simpa using this
  have hxm : x ∈ O.ofPid pid := ofPid_mem.2 ⟨hx.1, h3⟩
  have hne : O.ofPid pid ≠ [] := by intro h9; rw [h9] at hxm; cases hxm
  have hdo : O.done A.toP D pid 1099511627776 yes = O.write A.toP D ⟨3, pid, 1099511627776, if yes then 1 else 0, 0⟩ := by
    unfold POff.done
    rw [if_neg (fun h9 => h9 hpr), if_neg (by show ¬ (A.e ≠ 0); rw [h.e]; decide), if_neg, if_neg hne]
    rintro ⟨y, hy, hlt⟩
    have := (h.ok.pend y (ofPid_mem.1 hy).1).1
    unfold isProd at this
    omega
  have hfo : O.fold ⟨3, pid, 1099511627776, if yes then 1 else 0, 0⟩ = some { O with com := if (if yes then (1 : Int) else 0) = 1 then putCom O.com (O.ofPid pid) else O.com, pend := O.pend.filter fun x => !(x.pid == pid) } := by
    unfold POff.fold
    rw [if_neg (show ¬ ((3 : Int) = 1) by decide), if_neg (show ¬ ((3 : Int) = 2) by decide), if_pos rfl, if_neg]
    rintro (h9 | h9 | h9 | h9)
    · exact h9 hpr
    · dsimp only at h9
      cases yes <;> simp at h9
    · exact h9 rfl
    · exact hne h9
  obtain ⟨A1, D1, g1, g2, g3⟩ := h.write_room hr hk hp hfo (fun h => (by cases h))
  refine ⟨_, A1, D1, hdo.trans g1, g2, ?_⟩
  have hlen := g2.len
  have hpt : POff.isPart { O with com := if (if yes then (1 : Int) else 0) = 1 then putCom O.com (O.ofPid pid) else O.com, pend := O.pend.filter fun x => !(x.pid == pid) } part := by
    unfold POff.isPart at h2 ⊢
    rw [hlen, ← h.len]; exact h2
  have hof : POff.ofPart { O with com := if (if yes then (1 : Int) else 0) = 1 then putCom O.com (O.ofPid pid) else O.com, pend := O.pend.filter fun x => !(x.pid == pid) } part = [] := by
    unfold POff.ofPart
    dsimp only
    rw [List.filter_eq_nil_iff]
    intro y hy
    obtain ⟨hy1, hy2⟩ := List.mem_filter.1 hy
    intro h9
    have h9 : y.part = part := by simpa using h9
    have hyx : y ≠ x := by rintro rfl; simp [h3] at hy2
    have key : ∀ {l : List PPend}, l.Pairwise (fun x y => x.part ≠ y.part) → x ∈ l → y ∈ l → x.part ≠ y.part := by
      intro l hl
      induction l with
      | nil => intro h; cases h
      | cons z l ih =>
        obtain ⟨z1, z2⟩ := List.pairwise_cons.1 hl
        intro ha hb
        rcases List.mem_cons.1 ha with ha1 | ha2
        · rcases List.mem_cons.1 hb with hb1 | hb2
          · exact absurd (hb1.trans ha1.symm) hyx
          · rw [ha1]; exact z1 y hb2
        · rcases List.mem_cons.1 hb with hb1 | hb2
          · rw [hb1]; exact fun e => z1 x ha2 e.symm
          · exact ih z2 ha2 hb2
    exact key h.ok.once hx.1 hy1 (hx.2.trans h9.symm)
  unfold POff.fetch
  rw [if_neg (fun h9 => h9 hpt), if_neg (by show ¬ (A1.e ≠ 0); rw [g2.e]; decide), if_neg (by rw [hof]; simp)]
  have hv : POff.at { O with com := if (if yes then (1 : Int) else 0) = 1 then putCom O.com (O.ofPid pid) else O.com, pend := O.pend.filter fun x => !(x.pid == pid) } part = if yes then tov else O.at part := by
    unfold POff.at
    dsimp only
    cases yes with
    | false => simp
    | true =>
      simp only [if_true]
      have := putCom_one O.com (O.ofPid pid) hxm (fun y hy => (h.ok.pend y (ofPid_mem.1 hy).1).2.1) (h.ok.once.sublist List.filter_sublist)
      rw [hx.2] at this
      rw [this, h6]
  rw [hv]
end Go.Proofs.YtjodkcjlipecdaaGreatDoor

namespace Go.Proofs.YtjodkcjlipecdaaGreatDoor
open Go.RowKit

theorem fewPart_wrap (n : Int) : (wrap64 (n.tmod 4 + 4)).tmod 4 = ((fewParts n - 1 : Nat) : Int) := by
  unfold fewParts
  have h1 := Int.tmod_lt_of_pos (n.tmod 4 + 4) (show (0 : Int) < 4 by decide)
  have h0 := Int.tmod_lt_of_pos n (show (0 : Int) < 4 by decide)
  have h2 : 0 ≤ n.tmod 4 + 4 := by have := Int.lt_tmod_of_pos n (show (0 : Int) < 4 by decide); omega
  have h3 := Int.tmod_nonneg 4 h2
  rw [IntWalk.wrap64_in (n.tmod 4 + 4) (by omega)]
  omega

/-- A block that is none of theirs stays. -/
structure Apart (g : Nat) (wr : World) (S SL SD : Nat → Prop) : Prop where
  lt : g < wr.heap.size
  s : ¬ S g
  sl : ¬ SL g
  sd : ¬ SD g

theorem Apart.below {g : Nat} {wr w2 : World} {S SL SD : Nat → Prop} (h : Apart g wr S SL SD) (hb : Below wr.heap.size wr w2) : Apart g w2 S SL SD :=
  ⟨by have := h.lt; have := hb.size; omega, h.s, h.sl, h.sd⟩

theorem OffMade.to_apart {w wr w2 : World} {o l d g : Nat} {S SL SD : Nat → Prop} {O O2 : POff} {L L2 : PLog} {D D2 : PDisk} (h : OffMade w wr o l d S SL SD O L D) (ha : Apart g wr S SL SD) (hto : OffsTo wr w2 o l d S SL SD O2 L2 D2) :
    ∃ S2 SL2 SD2, OffMade w w2 o l d S2 SL2 SD2 O2 L2 D2 ∧ Apart g w2 S2 SL2 SD2 ∧ ∀ j, w2.cell? ⟨g, j, none⟩ = wr.cell? ⟨g, j, none⟩ := by
  obtain ⟨S2, SL2, SD2, a, f, s, t, u⟩ := hto
  have hsz := h.bel.size
  have hlt := ha.lt
  refine ⟨S2, SL2, SD2, ⟨a, h.bel.trans (f.to_below hsz (fun k hk h9 => ?_)), fun k hk => ?_, fun k hk => ?_, fun k hk => ?_⟩, ⟨by have := f.size; omega, fun h9 => ?_, fun h9 => ?_, fun h9 => ?_⟩, fun j => ?_⟩
  · rcases h9 with h9 | h9 | h9
    · have := h.s k h9; omega
    · have := h.sl k h9; omega
    · have := h.sd k h9; omega
  · rcases s k hk with h9 | h9
    · exact h.s k h9
    · omega
  · rcases t k hk with h9 | h9
    · exact h.sl k h9
    · omega
  · rcases u k hk with h9 | h9
    · exact h.sd k h9
    · omega
  · rcases s g h9 with h9 | h9
    · exact ha.s h9
    · omega
  · rcases t g h9 with h9 | h9
    · exact ha.sl h9
    · omega
  · rcases u g h9 with h9 | h9
    · exact ha.sd h9
    · omega
  · refine World.cell?_of_block (a := ⟨g, j, none⟩) ?_
    refine f.block g hlt ?_
    rintro (h9 | h9 | h9)
    · exact ha.s h9
    · exact ha.sl h9
    · exact ha.sd h9

/-- Between two rounds of OffsetsWait. -/
def WaitRel (w : World) (o ll d : Nat) (v : Value) (q : List OCell) (c : Value) (wr : World) : Prop :=
  ∃ (k : Nat) (O : POff) (A : ALog) (D : PDisk) (S SL SD : Nat → Prop), k ≤ q.length ∧ c = .int .i64 k ∧ OffMade w wr o ll d S SL SD O A.toP D ∧ OGood 4 1000 O A D ∧ Roomy k A D ∧
    wr.ownsRow w.heap.size 68 9 v q.length (odsCells q)

theorem new_roomy : Roomy 0 aO dO := ⟨rfl, by decide, by decide, by decide⟩

set_option maxHeartbeats 40000000 in
theorem wait_any {w : World} {v : Value} {l : List ODeed} (n m z : Int) (y : Bool) (h : InODeeds w v l) : Calls Tryz.prog 4 #[v, .int .i64 n, .int .i64 m, .int .i64 z, .bool y] w (AwakePost11 w) := by
  have HI := hid h
  clear h
  go_enter Tryz.func4, Tryz.ntmps4
  go_wp2_with fail
  refine (fresh_any 4 w (by omega)).mono ?_
  rintro e w1 ⟨o, ll, d, S, SL, SD, rfl, ho, hb, hs, hsl, hsd⟩
  have HM := hid (OffMade.mk ho hb hs hsl hsd)
  have HB := hid hb
  clear ho hb hs hsl hsd
  go_wp2_with fail
  refine (few11_any (HI.out.below HB.out)).mono ?_
  rintro e w2 ⟨v1, rfl, ⟨q, hql, hrow, hall⟩, hb2⟩
  have HM2 := hid (HM.out.below hb2)
  have HROW := hid (own_base (base' := w.heap.size) hrow (by have := HB.out.size; omega))
  have HALL : Hid (∀ x ∈ q, (∃ ka kn kc, x.K = .slice ka kn kc) ∧ x.d.fits) := hid (fun x hx => by
    obtain ⟨⟨_, ka, kc, hK, _⟩, hf⟩ := hall x hx
    exact ⟨⟨ka, _, kc, hK⟩, hf⟩)
  obtain ⟨va, vc, rfl⟩ := row_slice hrow
  have hq60 : q.length ≤ 60 := by
    have h9 := congrArg List.length hql
    unfold fewO at h9
    rw [List.length_map, List.length_map, List.length_take] at h9
    omega
  clear hrow hall hb2 HI HM HB hql
  go_wp2_with fail
  go_loopw [13] (fun c wr => WaitRel w o ll d (.slice va q.length vc) q c wr) (fun c _ => q.length - (intOf c).toNat)
  case atStart => exact ⟨0, POff.init 4, aO, dO, _, _, _, by omega, rfl, HM2.out, new_good 4, new_roomy, HROW.out⟩
  case round =>
    clear HM2 HROW
    obtain ⟨k, O, A, D, S, SL, SD, hk, rfl, hm, hg, hro, hrow⟩ := hrel
    have HM := hid hm
    have HG := hid hg
    have HRO := hid hro
    have HROW := hid hrow
    have hcl : O.com.length ≤ 4 := by have := hg.len; omega
    clear hm hg hro hrow
    by_cases hlt : k < q.length
    · obtain ⟨x, hx⟩ : ∃ x, q[k]? = some x := ⟨_, List.getElem?_eq_getElem hlt⟩
      obtain ⟨⟨ka, kn, kc, hK⟩, hfit⟩ := HALL.out x (List.mem_of_getElem? hx)
      obtain ⟨xd, xK⟩ := x
      simp only at hK hfit
      subst hK
      obtain ⟨g, cap, hve, hgl, hcells⟩ := OutODeeds.at HROW.out hx
      injection hve with e1 e2 e3
      subst e1 e3
      have HFIT := hid hfit
      have d0 := hcells 0 _ rfl
      have d1 := hcells 1 _ rfl
      have d2 := hcells 2 _ rfl
      have d3 := hcells 3 _ rfl
      have d4 := hcells 4 _ rfl
      have d5 := hcells 5 _ rfl
      have d6 := hcells 6 _ rfl
      have d7 := hcells 7 _ rfl
      have d8 := hcells 8 _ rfl
      simp only [Nat.add_zero] at d0
      clear hx hcells hfit e2
      go_wp2_with fail
      refine (does_any (N := 1000) xd ka kn kc HFIT.out HM.out.offs HG.out.ok hcl (fun _ => ⟨HG.out.inv, HG.out.wf⟩) HG.out.ok.com).mono ?_
      rintro e w6 ⟨rfl, hto⟩
      clear d0 d1 d2 d3 d4 d5 d6 d7 d8
      have HRD6 := hid (HM.out.offs.typed hto HROW.out (by decide) (by decide) (by decide))
      obtain ⟨S6, SL6, SD6, hm6⟩ := HM.out.to hto
      obtain ⟨A6, hA6, hg6, hr6⟩ := HG.out.does_room HRO.out (by omega) (by decide) xd
      clear hto
      generalize O.does A.toP D xd = r at hm6 hA6 hg6 hr6
      obtain ⟨O6, L6, D6, c6⟩ := r
      dsimp only at hm6 hA6 hg6 hr6
      subst hA6
      have HM6 := hid hm6
      have HG6 := hid hg6
      have HR6 := hid hr6
      clear hm6 hg6 hr6 HM HROW HG HRO
      go_wp2_with fail
      go_roundw
      case rel => exact ⟨k + 1, O6, A6, D6, S6, SL6, SD6, by omega, by go_num, HM6.out, HG6.out, HR6.out, HRD6.out⟩
      case measure => simp [intOf]; omega
    · obtain rfl : k = q.length := by omega
      have hp1 := fewParts_in n
      have hp2 := fewParts_in m
      have hok := HG.out.ok
      have HOK := hid hok
      clear hok hlt HALL HROW
      go_wp2_with fail
      rw [fewParts_wrap n, fewPart_wrap m]
      generalize fewParts n = pid at hp1 ⊢
      obtain ⟨part, hpart⟩ : ∃ part, fewParts m - 1 = part := ⟨_, rfl⟩
      rw [hpart]
      have hp3 : part < 4 := by omega
      clear hpart hp2
      refine (committed_any HM.out.offs.off hcl).mono ?_
      rintro e w3 ⟨v3, rfl, hrow3, hb3⟩
      rw [HG.out.len] at hrow3
      obtain ⟨g3, c3, rfl, hg3, hcell3⟩ := com_row hrow3 HG.out.len (by omega)
      have HAP : Hid (Apart g3 w3 S SL SD) := hid (by
        have h4 := (hrow3.lt g3 rfl).1
        refine ⟨hg3, fun h9 => ?_, fun h9 => ?_, fun h9 => ?_⟩
        · have := HM.out.offs.off.lt h9; omega
        · have := HM.out.offs.log.lt h9; omega
        · have := HM.out.offs.disk.lt h9; omega)
      have f3 := hcell3 part hp3
      have HM3 := hid (HM.out.below hb3)
      clear hcell3 hb3 hrow3 HM
      have hpt : O.isPart part := by
        unfold POff.isPart
        have := HG.out.len
        omega
      have HPT := hid hpt
      have hat : isNum (O.at part) := HOK.out.com _ (by
        unfold POff.at
        have h8 : part < O.com.length := by have := HG.out.len; omega
        rw [List.getD_eq_getElem?_getD, Int.toNat_natCast, List.getElem?_eq_getElem h8]
        exact List.getElem_mem h8)
      have HAT := hid hat
      clear hpt hat
      go_wp2_with fail
      generalize wrap64 (O.at (part : Int) + bits BinOp.and IntKind.i64 z 1023) = tov
      refine (pendOne_any (N := 1000) pid 1099511627776 part (O.at part) tov HM3.out.offs HOK.out hcl (fun _ => ⟨HG.out.inv, HG.out.wf⟩)).mono ?_
      rintro e w4 ⟨rfl, hto⟩
      obtain ⟨S4, SL4, SD4, hm4, ha4, hce4⟩ := HM3.out.to_apart HAP.out hto
      have f4 := (hce4 part).trans f3
      clear hto hce4 f3 HM3 HAP hg3
      have hpd : 1 ≤ (pid : Int) ∧ (pid : Int) ≤ 8 := by omega
      by_cases hcode : (O.pendOne A.toP D pid 1099511627776 part (O.at part) tov).2.2.2 = 0
      · obtain ⟨O1, A1, D1, hr1, hg1, hro1, hh1, hat1⟩ := HG.out.pend_held HRO.out (by omega) (by decide) hpd HPT.out hcode
        rw [hr1] at hm4 ⊢
        dsimp only at hm4 ⊢
        rw [← hat1] at f4 HAT
        have HM4 := hid hm4
        have HA4 := hid ha4
        have HG1 := hid hg1
        have HRO1 := hid hro1
        have HH := hid hh1
        have hcl1 : O1.com.length ≤ 4 := by have := hg1.len; omega
        clear hcode hr1 hg1 hro1 hh1 hm4 ha4 hat1 HG HRO HOK HPT
        go_wp2_with fail
        refine (offFetch_any part HM4.out.offs HG1.out.ok hcl1).mono ?_
        rintro e w5 ⟨rfl, hb5⟩
        rw [HH.out.fetch (L := A1.toP) HG1.out.e]
        dsimp only
        have HM5 := hid (HM4.out.below hb5)
        have HA5 := hid (HA4.out.below hb5)
        have f5 := (hb5.cell (p := ⟨g3, part, none⟩) HA4.out.lt).trans f4
        clear hb5 f4 HM4 HA4
        go_wp2_with fail
        refine (pendOne_any (N := 1000) 5 3 part (O1.at part) tov HM5.out.offs HG1.out.ok hcl1 (fun _ => ⟨HG1.out.inv, HG1.out.wf⟩)).mono ?_
        rintro e w6 ⟨rfl, hto⟩
        rw [HH.out.other (by omega) D1 (L := A1.toP) HG1.out.e HAT.out] at hto ⊢
        dsimp only at hto ⊢
        obtain ⟨S6, SL6, SD6, hm6, ha6, hce6⟩ := HM5.out.to_apart HA5.out hto
        have f6 := (hce6 part).trans f5
        have HM6 := hid hm6
        have HA6 := hid ha6
        clear hto hm6 ha6 hce6 f5 HM5 HA5
        go_wp2_with fail
        refine (pendOne_any (N := 1000) pid 1099511627776 part (O1.at part) tov HM6.out.offs HG1.out.ok hcl1 (fun _ => ⟨HG1.out.inv, HG1.out.wf⟩)).mono ?_
        rintro e w7 ⟨rfl, hto⟩
        rw [HH.out.again hpd D1 (L := A1.toP) HG1.out.e HAT.out] at hto ⊢
        dsimp only at hto ⊢
        obtain ⟨S7, SL7, SD7, hm7, ha7, hce7⟩ := HM6.out.to_apart HA6.out hto
        have f7 := (hce7 part).trans f6
        have HM7 := hid hm7
        have HA7 := hid ha7
        clear hto hm7 ha7 hce7 f6 HM6 HA6
        have hnum := HH.out.num
        unfold isNum at hnum
        go_wp2_with fail
        refine (pendOne_any (N := 1000) pid 1099511627776 part (O1.at part) (tov + 1) HM7.out.offs HG1.out.ok hcl1 (fun _ => ⟨HG1.out.inv, HG1.out.wf⟩)).mono ?_
        rintro e w8 ⟨rfl, hto⟩
        rw [HH.out.next hpd D1 (L := A1.toP) HG1.out.e HAT.out] at hto ⊢
        dsimp only at hto ⊢
        obtain ⟨S8, SL8, SD8, hm8, ha8, hce8⟩ := HM7.out.to_apart HA7.out hto
        have f8 := (hce8 part).trans f7
        have HM8 := hid hm8
        have HA8 := hid ha8
        clear hto hm8 ha8 hce8 f7 HM7 HA7
        obtain ⟨O2, A2, D2, hr2, hg2, hf2⟩ := HG1.out.done_held HRO1.out (by omega) (by decide) hpd HH.out y
        have HR2 := hid hr2
        have HG2 := hid hg2
        have HF2 := hid hf2
        have hcl2 : O2.com.length ≤ 4 := by have := hg2.len; omega
        clear hr2 hg2 hf2
        obtain ⟨c8, hc8⟩ : ∃ c : Int, (if tov = 1099511627776 then 1 else 9) = c := ⟨_, rfl⟩
        rw [hc8]
        have HC8 := hid hc8
        clear hc8
        go_wp2_with fail
        refine (done_any (N := 1000) pid 1099511627776 y HM8.out.offs HG1.out.ok hcl1 (fun _ => ⟨HG1.out.inv, HG1.out.wf⟩)).mono ?_
        rintro e w9 ⟨rfl, hto⟩
        rw [HR2.out] at hto ⊢
        dsimp only at hto ⊢
        obtain ⟨S9, SL9, SD9, hm9, ha9, hce9⟩ := HM8.out.to_apart HA8.out hto
        have f9 := (hce9 part).trans f8
        have HM9 := hid hm9
        have HA9 := hid ha9
        clear hto hm9 ha9 hce9 f8 HM8 HA8
        go_wp2_with fail
        refine (offFetch_any part HM9.out.offs HG2.out.ok hcl2).mono ?_
        rintro e w10 ⟨rfl, hb10⟩
        rw [HF2.out]
        dsimp only
        have HB10 := hid (HM9.out.below hb10).bel
        have f10 := (hb10.cell (p := ⟨g3, part, none⟩) HA9.out.lt).trans f9
        clear hb10 f9 HM9 HA9
        have HHT := hid HC8.out
        cases y with
        | true =>
          by_cases hto : tov = 1099511627776
          · have h1 := HC8.out
            rw [if_pos hto] at h1
            subst hto h1
            go_wp2_with fail
            refine (awake11_any _).mono ?_
            rintro e w11 ⟨rfl, hb11⟩
            have HB11 := hid (bel_next HB10.out hb11)
            clear hb11
            go_wp2_with fail
            go_ret
            exact ⟨rfl, HB11.out⟩
          · have h1 := HC8.out
            rw [if_neg hto] at h1
            subst h1
            clear hto
            go_wp2_with fail
            refine (awake11_any _).mono ?_
            rintro e w11 ⟨rfl, hb11⟩
            have HB11 := hid (bel_next HB10.out hb11)
            clear hb11
            go_wp2_with fail
            go_ret
            exact ⟨rfl, HB11.out⟩
        | false =>
          by_cases hto : tov = 1099511627776
          · have h1 := HC8.out
            rw [if_pos hto] at h1
            subst hto h1
            go_wp2_with fail
            refine (awake11_any _).mono ?_
            rintro e w11 ⟨rfl, hb11⟩
            have HB11 := hid (bel_next HB10.out hb11)
            clear hb11
            go_wp2_with fail
            go_ret
            exact ⟨rfl, HB11.out⟩
          · have h1 := HC8.out
            rw [if_neg hto] at h1
            subst h1
            clear hto
            go_wp2_with fail
            refine (awake11_any _).mono ?_
            rintro e w11 ⟨rfl, hb11⟩
            have HB11 := hid (bel_next HB10.out hb11)
            clear hb11
            go_wp2_with fail
            go_ret
            exact ⟨rfl, HB11.out⟩
      · obtain ⟨c, hc⟩ : ∃ c, (O.pendOne A.toP D pid 1099511627776 part (O.at part) tov).2.2.2 = c := ⟨_, rfl⟩
        rw [hc] at hcode ⊢
        have HB4 := hid hm4.bel
        have hd : decide (c = 0) = false := decide_eq_false hcode
        clear hc hm4 ha4
        go_wp2_with fail
        refine (awake11_any _).mono ?_
        rintro e w11 ⟨rfl, hb11⟩
        have HB11 := hid (bel_next HB4.out hb11)
        clear hb11
        go_wp2_with fail
        go_ret
        exact ⟨rfl, HB11.out⟩
end Go.Proofs.YtjodkcjlipecdaaGreatDoor
