/-
  What has no room, has none when it is tried once more; a mark that is put twice: plain. No conditions.
  What a batch that is put, and a mark, come to on a disk that has its power: plain. No conditions.
  A thing, its log and its disk in memory: what the caller's own rows and blocks keep behind calls on them. No conditions.
-/
import Derived.Test.YtgjkjkeeblbjlaaGreatDoorJMM
import Derived.Test.YtgjkjkeeblbjlaaGreatDoorHSM
import Derived.Test.YtgjkjkeeblbjlaaGreatDoorHFM
import Derived.Test.YtgjkjkeeblbjlaaGreatDoorGEM
set_option maxRecDepth 100000
namespace Go.Proofs.YtgjkjkeeblbjlaaGreatDoor
open Go.RowKit

/-- Two disks on which the same has room. -/
structure SizeEq (D D' : PDisk) : Prop where
  room : D'.room = D.room
  len : D'.files.length = D.files.length
  look : ∀ nm, (D'.look nm).map PFile.size = (D.look nm).map PFile.size
  off : D'.off = D.off
  fuse : D'.fuse = D.fuse

theorem SizeEq.refl (D : PDisk) : SizeEq D D := ⟨rfl, rfl, fun _ => rfl, rfl, rfl⟩

/-- How much room is needed. -/
def needOf (D : PDisk) (nm : List UInt8) (k : Nat) : Int := match (D.look nm).map PFile.size with | none => blk k | some n => blk (n + k) - blk n

theorem ready_no5 (D : PDisk) (nm : List UInt8) : D.ready nm ≠ 5 := by
  unfold PDisk.ready
  split
  · split <;> decide
  · decide

theorem append_five (D : PDisk) (nm t : List UInt8) : (D.append nm t).2 = 5 ↔ D.ready nm = 0 ∧ (D.room < needOf D nm t.length ∨ ((D.look nm).map PFile.size = none ∧ 256 ≤ D.files.length)) := by
  have h5 := ready_no5 D nm
  unfold PDisk.append needOf
  by_cases hr : D.ready nm = 0
  · rw [if_neg (by omega)]
    have hlast : ∀ b : Bool, ¬ ((if b = true then (0 : Int) else 4) = 5) := by intro b; cases b <;> decide
    cases hl : D.look nm with
    | none =>
      simp only [true_and, Option.map_none]
      split
      · rename_i h
        exact ⟨fun _ => ⟨hr, h⟩, fun _ => rfl⟩
      · rename_i h
        exact ⟨fun h9 => absurd h9 (hlast _), fun h9 => absurd h9.2 h⟩
    | some f =>
      simp only [reduceCtorEq, false_and, or_false, Option.map_some]
      split
      · rename_i h
        exact ⟨fun _ => ⟨hr, h⟩, fun _ => rfl⟩
      · rename_i h
        exact ⟨fun h9 => absurd h9 (hlast _), fun h9 => absurd h9.2 h⟩
  · rw [if_pos hr]
    exact ⟨fun h9 => absurd h9 h5, fun h9 => absurd h9.1 hr⟩

theorem append_five_disk {D : PDisk} {nm t : List UInt8} (h : (D.append nm t).2 = 5) : (D.append nm t).1 = D := by
  have h1 := (append_five D nm t).1 h
  unfold PDisk.append
  rw [if_neg (by rw [h1.1]; decide)]
  dsimp only
  have h2 := h1.2
  unfold needOf at h2
  rw [if_pos]
  cases hl : D.look nm with
  | none => rw [hl] at h2; simpa using h2
  | some f => rw [hl] at h2; simpa using h2

theorem five_same {D D' : PDisk} (h : SizeEq D D') {nm t t' : List UInt8} (hl : t'.length = t.length) (h5 : (D.append nm t).2 = 5) : (D'.append nm t').2 = 5 := by
  rw [append_five] at h5 ⊢
  unfold needOf at h5 ⊢
  unfold PDisk.ready at h5 ⊢
  rw [h.look, h.room, h.len, h.off, hl]
  exact h5

theorem find_put {l : List PFile} (hs : Sorted l) {f f' : PFile} (hf : f ∈ l) (e : f'.name = f.name) (hz : f'.size = f.size) (nm : List UInt8) :
    ((putF l f').find? (fun g => g.name == nm)).map PFile.size = (l.find? (fun g => g.name == nm)).map PFile.size := by
  obtain ⟨a, b, h1, h2⟩ := putF_mem hs hf e
  rw [h2, h1, List.find?_append, List.find?_append]
  cases ha : a.find? (fun g => g.name == nm) with
  | some g => rfl
  | none =>
    rw [Option.none_or, Option.none_or, List.find?_cons, List.find?_cons, e]
    cases f.name == nm with
    | true => simp [hz]
    | false => rfl

theorem sync_size {D : PDisk} {nm : List UInt8} {N : Int} (hw : D.WF N) (hfu : D.fuse = -1) (h : (D.sync nm).2 = 0) : SizeEq D (D.sync nm).1 ∧ ∃ f, D.look nm = some f ∧ okName nm = true ∧ D.off = false := by
  by_cases hok : okName nm = true
  · cases hl : D.look nm with
    | none =>
      exfalso
      unfold PDisk.sync PDisk.work at h
      rw [hl] at h
      split at h
      · rename_i h9; exact h9 h
      · cases h
    | some f =>
      rcases PDisk.sync_out D hok hl with ⟨e, _⟩ | ⟨D', e, _⟩ | ⟨D', e, h1, h2, h3, h4, h5, h6⟩
      · rw [e] at h; cases h
      · rw [e] at h; cases h
      · rw [e]
        have hm := (PDisk.look_some hl).1
        refine ⟨⟨h2, ?_, fun nm2 => ?_, by rw [h3, h5], by rw [h6 hfu, hfu]⟩, f, rfl, hok, h5⟩
        · rw [h1]
          exact putF_len_mem hw.sorted (f' := { f with sure := f.sure ++ f.loose, loose := [] }) hm rfl
        · show (D'.files.find? _).map _ = (D.files.find? _).map _
          rw [h1]
          refine find_put hw.sorted (f' := { f with sure := f.sure ++ f.loose, loose := [] }) hm rfl ?_ nm2
          show (f.sure ++ f.loose).length + 0 = f.sure.length + f.loose.length
          simp
  · exfalso
    unfold PDisk.sync PDisk.work at h
    have hr : D.ready nm = 1 := by unfold PDisk.ready; rw [if_neg hok]
    rw [if_pos (by rw [hr]; decide)] at h
    rw [hr] at h
    cases h

theorem sync_no5 (D : PDisk) (nm : List UInt8) : (D.sync nm).2 ≠ 5 := by
  have h5 := ready_no5 D nm
  unfold PDisk.sync PDisk.work
  split
  · exact h5
  · split
    · exact show (3 : Int) ≠ 5 by decide
    · split
      · exact show (0 : Int) ≠ 5 by decide
      · exact show (4 : Int) ≠ 5 by decide

/-- What had no room has none. -/
theorem put_five {A : ALog} {D : PDisk} {s : ASeg} {bf : List ASeg} {ents : List Ent} : (A.put D s bf ents).2.2.2 = 5 ↔ (D.append (segName A.name s.base) (layText ents)).2 = 5 := by
  unfold ALog.put
  dsimp only
  split
  · rename_i h; exact ⟨fun _ => h, fun _ => rfl⟩
  · rename_i h
    split
    · exact ⟨fun h9 => h9, fun h9 => h9⟩
    · exact ⟨fun h9 => (by cases h9), fun h9 => absurd h9 h⟩

theorem put_five_to {A : ALog} {D : PDisk} {s : ASeg} {bf : List ASeg} {ents : List Ent} (h : (A.put D s bf ents).2.2.2 = 5) : A.put D s bf ents = (A, D, 0, 5) := by
  have h1 := put_five.1 h
  have h2 := append_five_disk h1
  unfold ALog.put
  dsimp only
  rw [if_pos h1, h2]

theorem appendE_five {A : ALog} {D : PDisk} {N : Int} {ents : List Ent} (hw : D.WF N) (hfu : D.fuse = -1) (he : A.e = 0) (h5 : (A.appendE D ents).2.2.2 = 5) :
    ∀ ents' : List Ent, (layText ents').length = (layText ents).length → ((A.appendE D ents).1.appendE (A.appendE D ents).2.1 ents').2.2.2 = 5 := by
  intro ents' hlen
  cases ha : A.act with
  | some s =>
    have e : ∀ X, A.appendE D X = A.put D s A.segs.dropLast X := fun X => by unfold ALog.appendE; rw [ha]
    rw [e] at h5 ⊢
    rw [put_five_to h5]
    dsimp only
    rw [e]
    exact put_five.2 (five_same (SizeEq.refl D) hlen (put_five.1 h5))
  | none =>
    by_cases hs : A.segs = []
    · have e : ∀ X, A.appendE D X = A.put D ⟨A.next, []⟩ [] X := fun X => by unfold ALog.appendE; rw [ha]; dsimp only; rw [if_pos hs]
      rw [e] at h5 ⊢
      rw [put_five_to h5]
      dsimp only
      rw [e]
      exact put_five.2 (five_same (SizeEq.refl D) hlen (put_five.1 h5))
    · obtain ⟨a, s, h0⟩ : ∃ a s, A.segs = a ++ [s] := by
        rcases List.eq_nil_or_concat A.segs with h0 | ⟨a, s, h0⟩
        · exact absurd h0 hs
        · exact ⟨a, s, by rw [h0, List.concat_eq_append]⟩
      have hsy : ∀ (B : ALog) (X : PDisk), B.segs = A.segs → B.name = A.name → B.e = 0 → B.sync X = ({ B with e := (X.sync (segName A.name s.base)).2, sure := if (X.sync (segName A.name s.base)).2 = 0 then B.next else B.sure }, (X.sync (segName A.name s.base)).1, (X.sync (segName A.name s.base)).2) := by
        intro B X h1 h2 h3
        unfold ALog.sync
        rw [h1, h0, List.getLast?_append, List.getLast?_singleton]
        dsimp only [Option.some_or]
        rw [if_neg (by rw [h3]; decide), h2]
      have e : ∀ (B : ALog) (X : PDisk) Y, B.segs = A.segs → B.name = A.name → B.e = 0 → (X.sync (segName A.name s.base)).2 = 0 → B.appendE X Y = ({ B with e := (X.sync (segName A.name s.base)).2, sure := if (X.sync (segName A.name s.base)).2 = 0 then B.next else B.sure } : ALog).put (X.sync (segName A.name s.base)).1 ⟨B.next, []⟩ B.segs Y := by
        intro B X Y h1 h2 h3 h4
        have hb : B.act = none := by
          unfold ALog.act at ha ⊢
          rw [h1]; exact ha
        unfold ALog.appendE
        rw [hb]
        dsimp only
        rw [if_neg (by rw [h1]; exact hs), hsy B X h1 h2 h3]
        dsimp only
        rw [if_neg (by rw [h4]; decide)]
      by_cases h4 : (D.sync (segName A.name s.base)).2 = 0
      · rw [e A D ents rfl rfl he h4] at h5 ⊢
        rw [put_five_to h5]
        dsimp only
        obtain ⟨hz, f, hl, hok, hoff⟩ := sync_size hw hfu h4
        have hw1 : (D.sync (segName A.name s.base)).1.WF N := by
          have h9 := PLog.sync_disk (L := A.toP) (D := D) hw
          rw [toP_sync, hsy A D rfl rfl he] at h9
          exact h9
        have hfu1 : (D.sync (segName A.name s.base)).1.fuse = -1 := by rw [hz.fuse]; exact hfu
        have h6 : ((D.sync (segName A.name s.base)).1.sync (segName A.name s.base)).2 = 0 := by
          obtain ⟨f1, hl1⟩ : ∃ f1, (D.sync (segName A.name s.base)).1.look (segName A.name s.base) = some f1 := by
            have h9 := hz.look (segName A.name s.base)
            rw [hl] at h9
            cases h8 : (D.sync (segName A.name s.base)).1.look (segName A.name s.base) with
            | none => rw [h8] at h9; cases h9
            | some f1 => exact ⟨f1, rfl⟩
          rcases PDisk.sync_out (D.sync (segName A.name s.base)).1 hok hl1 with ⟨_, e9⟩ | ⟨_, _, _, _, e9⟩ | ⟨D', e9, _⟩
          · rw [hz.off, hoff] at e9; cases e9
          · rw [hfu1] at e9; cases e9
          · rw [e9]
        have hz2 := (sync_size hw1 hfu1 h6).1
        rw [e ({ A with e := (D.sync (segName A.name s.base)).2, sure := if (D.sync (segName A.name s.base)).2 = 0 then A.next else A.sure } : ALog) (D.sync (segName A.name s.base)).1 ents' rfl rfl h4 h6]
        rw [put_five]
        have h7 := put_five.1 h5
        dsimp only at h7 ⊢
        exact five_same hz2 hlen h7
      · exfalso
        have hx : (A.appendE D ents).2.2.2 = (D.sync (segName A.name s.base)).2 := by
          unfold ALog.appendE
          rw [ha]
          dsimp only
          rw [if_neg hs, hsy A D rfl rfl he]
          dsimp only
          rw [if_pos h4]
        rw [hx] at h5
        exact sync_no5 _ _ h5

theorem lay_len_eq {b : Int} {t t' : List UInt8} (h : t'.length = t.length) : (layText [⟨b, 1, t'⟩]).length = (layText [⟨b, 1, t⟩]).length := by
  rw [layText_one, layText_one]
  unfold Ent.lay
  rw [sealL_len, sealL_len]
  unfold putTextL
  simp only [List.length_append, h]

section
variable {σ : Type} {P : Notes σ} {N : Int}

/-- A short note, and another one of its length behind it. -/
theorem note_again {s s1 : σ} {A : ALog} {D : PDisk} {t t' : List UInt8} (h : NGood P N s A D) (hfu : D.fuse = -1) (hb : A.next + 1 ≤ 1099511627776) (ht : t.length ≤ 100) (htl : t'.length = t.length) (hf : P.step ⟨A.next, 1, t⟩ s = some s1) :
    (∃ A' D', noteTo s s1 A.toP D ⟨1, t⟩ = (s1, A'.toP, D', 0) ∧ NGood P N s1 A' D' ∧ D'.fuse = -1 ∧ A'.all = A.all ++ [⟨A.next, 1, t⟩] ∧ A'.next = A.next + 1) ∨
    (∃ A' D', noteTo s s1 A.toP D ⟨1, t⟩ = (s, A'.toP, D', 5) ∧ NGood P N s A' D' ∧ D'.fuse = -1 ∧ A'.all = A.all ∧ A'.next = A.next ∧
      ∀ s2, ∃ A2 D2, noteTo s s2 A'.toP D' ⟨1, t'⟩ = (s, A2.toP, D2, 5) ∧ NGood P N s A2 D2 ∧ D2.fuse = -1 ∧ A2.all = A.all ∧ A2.next = A.next) := by
  have hn0 := h.next0
  have hlay := lay_it (b := A.next) hn0 hb ht
  have happ : A.append D [⟨1, t⟩] = A.appendE D [⟨A.next, 1, t⟩] := by
    unfold ALog.append
    rw [if_neg (by simp), if_neg (by rw [h.e]; decide), hlay, if_neg (fun h9 => h9 rfl)]
  have hfive : (A.append D [⟨1, t⟩]).2.2.2 = 5 → ∀ t2 : List UInt8, t2.length = t.length → ((A.append D [⟨1, t⟩]).1.appendE (A.append D [⟨1, t⟩]).2.1 [⟨A.next, 1, t2⟩]).2.2.2 = 5 := by
    rw [happ]
    intro h5 t2 h2
    exact appendE_five h.wf hfu h.e h5 _ (lay_len_eq h2)
  have ho := h.entry (Q := fun _ _ => True) (it := ⟨1, t⟩) hf trivial
  have hao := h.inv.append_out h.wf h.e [⟨1, t⟩]
  have hwf : (A.toP.append D [⟨1, t⟩]).2.1.WF N := PLog.append_disk h.wf _
  unfold noteTo at ho ⊢
  rw [toP_append] at ho hwf ⊢
  generalize A.append D [⟨1, t⟩] = r at ho hao hwf hfive ⊢
  cases hao with
  | ok A' D' inv name all next chain first e sure own' off fuse ents =>
    dsimp only at ho hwf ⊢
    rw [if_neg (by decide), toP_sync] at ho ⊢
    have hs := inv.sync_out hwf e
    generalize A'.sync D' = q at hs ho ⊢
    cases hs with
    | ok A2 D2 inv2 name2 segs2 e2 sure2 room2 len2 own2 off2 fuse2 =>
      dsimp only at ho ⊢
      rw [if_neg (by decide)] at ho ⊢
      generalize hx : (s1, A2.toP, D2, (0 : Int)) = x at ho
      cases ho with
      | ok A3 D3 good fuse3 all3 next3 n3 =>
        injection hx with _ hx
        injection hx with hx1 hx
        injection hx with hx2 _
        subst hx2
        exact .inl ⟨A3, D2, rfl, good, fuse3 hfu, all3, next3⟩
      | no A3 D3 c good hc fuse3 all3 =>
        exfalso
        injection hx with _ hx
        injection hx with _ hx
        injection hx with _ hx
        exact hc hx.symm
      | dark A3 D3 dark was => exact absurd hfu was
    | dark D2 inv2 off2 was2 =>
      exfalso
      have h9 := fuse hfu
      rcases was2 with h8 | h8
      · rw [off] at h8; cases h8
      · omega
  | full A' D' inv name segs e sure room len own' off fuse =>
    dsimp only at hwf hfive ⊢
    rw [if_pos (by decide)]
    have hfv := hfive rfl t' htl
    have hn2 : A'.next = A.next := by unfold ALog.next; rw [segs]
    have hal : A'.all = A.all := by unfold ALog.all; rw [segs]
    have hf2 : A'.first = A.first := by unfold ALog.first; rw [segs]
    have good : NGood P N s A' D' := by
      refine ⟨inv, hwf, by rw [name]; exact h.name, e, by rw [hf2]; exact h.first, off, by rw [hal]; exact h.rep, ?_⟩
      have h1 := inv.sure_le.2
      have h2 := h.sure
      omega
    refine .inr ⟨A', D', rfl, good, fuse hfu, hal, hn2, fun s2 => ?_⟩
    have hlay2 := lay_it (b := A.next) hn0 hb (show t'.length ≤ 100 by omega)
    have happ2 : A'.append D' [⟨1, t'⟩] = A'.appendE D' [⟨A.next, 1, t'⟩] := by
      unfold ALog.append
      rw [if_neg (by simp), if_neg (by rw [e]; decide), hn2, hlay2, if_neg (fun h9 => h9 rfl)]
    rw [← happ2] at hfv
    have hao2 := inv.append_out hwf e [⟨1, t'⟩]
    have hwf2 : (A'.toP.append D' [⟨1, t'⟩]).2.1.WF N := PLog.append_disk hwf _
    rw [toP_append] at hwf2 ⊢
    generalize A'.append D' [⟨1, t'⟩] = r2 at hao2 hfv hwf2 ⊢
    cases hao2 with
    | ok A2 D2 inv2 name2 all2 next2 chain2 first2 e2 sure2 own2 off2 fuse2 ents2 => cases hfv
    | bad c why =>
      exfalso
      dsimp only at hfv
      rcases why with ⟨_, h9⟩ | ⟨_, _, h9⟩ <;> omega
    | dark A2 A3 D2 inv2 name2 name3 segs2 sure2 sure3 e2 chain2 max2 all2 off2 was2 first2 => cases hfv
    | full A2 D2 inv2 name2 segs2 e2 sure2 room2 len2 own2 off2 fuse2 =>
      dsimp only at hwf2 ⊢
      rw [if_pos (by decide)]
      have hn3 : A2.next = A.next := by unfold ALog.next at hn2 ⊢; rw [segs2]; exact hn2
      have hal3 : A2.all = A.all := by unfold ALog.all at hal ⊢; rw [segs2]; exact hal
      have hf3 : A2.first = A.first := by unfold ALog.first at hf2 ⊢; rw [segs2]; exact hf2
      refine ⟨A2, D2, rfl, ⟨inv2, hwf2, by rw [name2, name]; exact h.name, e2, by rw [hf3]; exact h.first, off2, by rw [hal3]; exact h.rep, ?_⟩, fuse2 (fuse hfu), hal3, hn3⟩
      have h1 := inv2.sure_le.2
      have h2 := h.sure
      omega
  | bad c why =>
    exfalso
    rcases why with ⟨h9, _⟩ | ⟨_, h9, h10⟩
    · cases h9
    · rw [hlay] at h9
      dsimp only at h9
      omega
  | dark A' A2 D' inv name name2 segs sure sure' e chain max all off was first =>
    exfalso
    rcases was with h9 | h9
    · rw [h.off] at h9; cases h9
    · omega
end

theorem mark_lay_len {pid ep : Int} (yes again : Bool) : (markOf pid ep again).lay.length = (markOf pid ep yes).lay.length := by
  have h3 : (putL 3).length = (putL 4).length := by decide +kernel
  unfold PBat.lay
  rw [List.length_append, List.length_append]
  congr 1
  unfold PBat.head markOf putAllL
  dsimp only
  cases yes <;> cases again <;> simp [h3]

theorem mark_lay_small {pid ep : Int} {yes : Bool} (h : (markOf pid ep yes).ok) : (markOf pid ep yes).lay.length ≤ 100 := by
  have h1 := putAllL_len (markOf pid ep yes).head (fun x hx => by have := h.head_in x hx; omega)
  have h4 : (markOf pid ep yes).head.length = 5 := rfl
  have h5 : recsLay (markOf pid ep yes).l = [] := rfl
  unfold PBat.lay
  rw [List.length_append, h5]
  simp only [List.length_nil]
  omega

theorem mark_ok_any {pid ep : Int} {yes : Bool} (again : Bool) (h : (markOf pid ep yes).ok) : (markOf pid ep again).ok := by
  obtain ⟨h1, h2, h3⟩ := h
  refine ⟨h1, h2, ?_⟩
  rcases h3 with ⟨_, h4, _⟩ | ⟨_, h4, _⟩ | ⟨_, h5, h6, h7⟩
  · exact absurd rfl h4
  · exact absurd rfl h4
  · refine .inr (.inr ⟨?_, h5, h6, h7⟩)
    unfold markOf
    cases again
    · exact .inr rfl
    · exact .inl rfl

/-- What a mark leaves, and what one behind it comes to. -/
structure MarkTwice (N : Int) (s : PPart) (A : ALog) (D : PDisk) (pid ep : Int) (yes again : Bool) : Prop where
  out : ∃ A1 D1 A2 D2 e1, s.mark A.toP D pid ep yes = ⟨(s.mark A.toP D pid ep yes).s, A1.toP, D1, 0, false, e1⟩ ∧ NGood paNotes N (s.mark A.toP D pid ep yes).s A1 D1 ∧ D1.fuse = -1 ∧
    ((e1 = 0 ∧ (∀ o ∈ (s.mark A.toP D pid ep yes).s.opens, o.pid ≠ pid) ∧ A2 = A1 ∧ D2 = D1) ∨ e1 ≠ 0) ∧ A2.next = A1.next ∧ NGood paNotes N (s.mark A.toP D pid ep yes).s A2 D2 ∧
    (s.mark A.toP D pid ep yes).s.mark A1.toP D1 pid ep again = ⟨(s.mark A.toP D pid ep yes).s, A2.toP, D2, 0, false, e1⟩ ∧ A1.all.length ≤ A.all.length + 1 ∧ A2.all.length ≤ A.all.length + 1

theorem noteP_epoch {l : List PProd} {b : PBat} {base : Int} (hno : (l.any fun x => decide (x.pid = b.pid) && decide (b.epoch < x.epoch)) = false) : ((noteP l b base).any fun x => decide (x.pid = b.pid) && decide (b.epoch < x.epoch)) = false := by
  rw [List.any_eq_false] at hno ⊢
  have hpe : (b.prod base).epoch = b.epoch := by unfold PBat.prod; split <;> rfl
  intro x hx
  unfold noteP at hx
  split at hx
  · exact hno x hx
  · split at hx
    · rcases mem_insP hx with rfl | hx
      · simp [hpe]
      · exact hno x hx
    · split at hx
      · exact hno x hx
      · rcases mem_setP hx with rfl | hx
        · simp [hpe]
        · exact hno x hx

theorem took_prods (s : PPart) (b : PBat) (base : Int) : (s.took b base).prods = noteP s.prods b base := by
  unfold PPart.took
  split <;> rfl

theorem openOf_cut {l : List POpen} {pid : Int} (hs : l.Pairwise (fun a b => a.first < b.first ∧ a.pid ≠ b.pid)) : (∀ o ∈ openCut l pid, o.pid ≠ pid) ∧ openOf (openCut l pid) pid = none := by
  have h1 : ∀ o ∈ openCut l pid, o.pid ≠ pid := fun o ho => ((mem_cut hs o).1 ho).2
  exact ⟨h1, List.find?_eq_none.2 fun o ho => by simpa using h1 o ho⟩

theorem mark_twice {N : Int} {s : PPart} {A : ALog} {D : PDisk} (h : NGood paNotes N s A D) (hfu : D.fuse = -1) (hb : A.next + 1 ≤ 1099511627776) (pid ep : Int) (yes again : Bool) : MarkTwice N s A D pid ep yes again := by
  have hi := paInv_of h
  have he0 : ¬ A.toP.e ≠ 0 := fun h9 => h9 h.e
  by_cases hok : (markOf pid ep yes).ok
  · have hok2 := mark_ok_any again hok
    by_cases hpr : (s.prods.any fun x => decide (x.pid = pid) && decide (ep < x.epoch)) = true
    · have e : ∀ y, (markOf pid ep y).ok → s.mark A.toP D pid ep y = ⟨s, A.toP, D, 0, false, 8⟩ := fun y hy => by
        unfold PPart.mark
        rw [if_neg (fun h9 => h9 hy), if_neg he0, if_pos hpr]
      refine ⟨A, D, A, D, 8, ?_⟩
      rw [e yes hok, e again hok2]
      exact ⟨rfl, h, hfu, .inr (by decide), rfl, h, rfl, by omega, by omega⟩
    · have hpr2 : (s.prods.any fun x => decide (x.pid = pid) && decide (ep < x.epoch)) = false := by simpa using hpr
      cases ho : openOf s.opens pid with
      | none =>
        have e : ∀ y, (markOf pid ep y).ok → s.mark A.toP D pid ep y = ⟨s, A.toP, D, 0, false, 0⟩ := fun y hy => by
          unfold PPart.mark
          rw [if_neg (fun h9 => h9 hy), if_neg he0, if_neg hpr, ho]
        refine ⟨A, D, A, D, 0, ?_⟩
        rw [e yes hok, e again hok2]
        exact ⟨rfl, h, hfu, .inl ⟨rfl, openOf_no8 ho, rfl, rfl⟩, rfl, h, rfl, by omega, by omega⟩
      | some o =>
        have e : ∀ (B : ALog) (X : PDisk) y, (markOf pid ep y).ok → B.e = 0 → s.mark B.toP X pid ep y = ⟨(paWrite s B.toP X (markOf pid ep y)).1, (paWrite s B.toP X (markOf pid ep y)).2.1, (paWrite s B.toP X (markOf pid ep y)).2.2.1, 0, false, (paWrite s B.toP X (markOf pid ep y)).2.2.2⟩ := fun B X y hy hB => by
          unfold PPart.mark
          rw [if_neg (fun h9 => h9 hy), if_neg (fun h9 => h9 hB), if_neg hpr, ho]
        have hna := note_again h hfu hb (mark_lay_small hok) (mark_lay_len yes again) (paStep hok s)
        have hw : ∀ (B : ALog) (X : PDisk) y, paWrite s B.toP X (markOf pid ep y) = noteTo s (s.took (markOf pid ep y) B.next) B.toP X ⟨1, (markOf pid ep y).lay⟩ := fun _ _ _ => rfl
        rcases hna with ⟨A', D', h1, h2, h3, h4, h5⟩ | ⟨A', D', h1, h2, h3, h4, h5, h6⟩
        · rw [← hw] at h1
          obtain ⟨t1, t2⟩ := took_mark8 (ep := ep) (nx := A.next) (yes := yes) ho
          obtain ⟨c1, c2⟩ := openOf_cut (pid := pid) hi.osort
          refine ⟨A', D', A', D', 0, ?_⟩
          rw [e A D yes hok h.e, h1]
          dsimp only
          refine ⟨rfl, h2, h3, .inl ⟨rfl, by rw [t1]; exact c1, rfl, rfl⟩, rfl, h2, ?_, by rw [h4]; simp, by rw [h4]; simp⟩
          unfold PPart.mark
          rw [if_neg (fun h9 => h9 hok2), if_neg (fun h9 => h9 h2.e)]
          have hx := noteP_epoch (b := markOf pid ep yes) (base := A.next) hpr2
          rw [took_prods, if_neg (by
            have hx2 : ((noteP s.prods (markOf pid ep yes) A.next).any fun x => decide (x.pid = pid) && decide (ep < x.epoch)) = false := hx
            rw [hx2]
            decide), t1, c2]
        · rw [← hw] at h1
          obtain ⟨A2, D2, g1, g2, g3, g4, g5⟩ := h6 (s.took (markOf pid ep again) A'.next)
          rw [← hw] at g1
          refine ⟨A', D', A2, D2, 5, ?_⟩
          rw [e A D yes hok h.e, h1]
          dsimp only
          refine ⟨rfl, h2, h3, .inr (by decide), by rw [g5, h5], g2, ?_, by rw [h4]; omega, by rw [g4]; omega⟩
          rw [e A' D' again hok2 h2.e, g1]
  · have hok2 : ¬ (markOf pid ep again).ok := fun h9 => hok (mark_ok_any yes h9)
    have e : ∀ y, ¬ (markOf pid ep y).ok → s.mark A.toP D pid ep y = ⟨s, A.toP, D, 0, false, 1⟩ := fun y hy => by
      unfold PPart.mark
      rw [if_pos hy]
    refine ⟨A, D, A, D, 1, ?_⟩
    rw [e yes hok, e again hok2]
    exact ⟨rfl, h, hfu, .inr (by decide), rfl, h, rfl, by omega, by omega⟩
end Go.Proofs.YtgjkjkeeblbjlaaGreatDoor

namespace Go.Proofs.YtgjkjkeeblbjlaaGreatDoor
open Go.RowKit

theorem NGood.note_fuse {σ : Type} {P : Notes σ} {N : Int} {s s1 : σ} {A : ALog} {D : PDisk} {it : PItem} (h : NGood P N s A D) (hf : P.step ⟨A.next, it.n, it.text⟩ s = some s1) (hfu : D.fuse = -1) : (noteTo s s1 A.toP D it).2.2.1.fuse = -1 := by
  have ho := h.entry (Q := fun _ _ => True) hf trivial
  generalize noteTo s s1 A.toP D it = r at ho
  cases ho with
  | ok A' D' good fuse all next n => exact fuse hfu
  | no A' D' c good hc fuse all => exact fuse hfu
  | dark A' D' dark was => exact absurd hfu was

/-- What stays true of a partition on a disk of its own that has its power. -/
structure PaWell (s : PPart) (A : ALog) (D : PDisk) : Prop where
  good : NGood paNotes 1000 s A D
  fuse : D.fuse = -1
  own : AllOwn paName D

theorem paWell_new : PaWell sP aP (dP 1000) := ⟨paNew1000, rfl, fun f hf => by cases hf⟩

theorem NGood.next_all {σ : Type} {P : Notes σ} {N : Int} {s s2 : σ} {A A2 : ALog} {D D2 : PDisk} (h : NGood P N s A D) (h2 : NGood P N s2 A2 D2) (he : A2.all = A.all) : A2.next = A.next := by
  rw [← h.chain.2, ← h2.chain.2, he]

/-- A batch that may be, written. -/
theorem PaWell.write {s : PPart} {A : ALog} {D : PDisk} (h : PaWell s A D) {b : PBat} (hb : b.ok) :
    (∃ A' D', paWrite s A.toP D b = (s.took b A.next, A'.toP, D', 0) ∧ PaWell (s.took b A.next) A' D' ∧ A'.all = A.all ++ [⟨A.next, b.len, b.lay⟩] ∧ A'.next = A.next + b.len) ∨
    (∃ A' D' c, paWrite s A.toP D b = (s, A'.toP, D', c) ∧ c ≠ 0 ∧ PaWell s A' D' ∧ A'.all = A.all ∧ A'.next = A.next) := by
  have ho : EOut paNotes 1000 (fun _ _ => True) s A D ⟨b.len, b.lay⟩ (s.took b A.next) (paWrite s A.toP D b) := h.good.entry (it := ⟨b.len, b.lay⟩) (paStep hb s) trivial
  have hown : AllOwn paName (paWrite s A.toP D b).2.2.1 := h.good.note_own h.fuse h.own
  generalize paWrite s A.toP D b = r at ho hown ⊢
  cases ho with
  | ok A' D' good fuse all next n => exact .inl ⟨A', D', rfl, ⟨good, fuse h.fuse, hown⟩, all, next⟩
  | no A' D' c good hc fuse all => exact .inr ⟨A', D', c, rfl, hc, ⟨good, fuse h.fuse, hown⟩, all, h.good.next_all good all⟩
  | dark A' D' dark was => exact absurd h.fuse was

/-- A batch that is put. -/
theorem PaWell.put {s : PPart} {A : ALog} {D : PDisk} (h : PaWell s A D) (b : PBat) :
    (∃ A' D', s.put A.toP D b = ⟨s.took b A.next, A'.toP, D', A.next, false, 0⟩ ∧ b.ok ∧ (b.kind = 1 ∨ b.kind = 2) ∧ (lookP s.prods b).2.2 = 0 ∧ (lookP s.prods b).2.1 = false ∧ PaWell (s.took b A.next) A' D' ∧ A'.all = A.all ++ [⟨A.next, b.len, b.lay⟩] ∧ A'.next = A.next + b.len) ∨
    (∃ A' D' n y c, s.put A.toP D b = ⟨s, A'.toP, D', n, y, c⟩ ∧ (c ≠ 0 ∨ y = true) ∧ PaWell s A' D' ∧ A'.all = A.all ∧ A'.next = A.next) := by
  unfold PPart.put
  rw [if_neg (fun h9 => h9 h.good.e)]
  dsimp only
  by_cases hk : (lookP s.prods b).2.2 ≠ 0 ∨ (lookP s.prods b).2.1 = true
  · rw [if_pos hk]
    exact .inr ⟨A, D, _, _, _, rfl, hk, h, rfl, rfl⟩
  · rw [if_neg hk]
    have h1 : (lookP s.prods b).2.2 = 0 := by
      rcases Decidable.em ((lookP s.prods b).2.2 = 0) with h9 | h9
      · exact h9
      · exact absurd (.inl h9) hk
    have h2 : (lookP s.prods b).2.1 = false := by
      cases h9 : (lookP s.prods b).2.1 with
      | false => rfl
      | true => exact absurd (.inr h9) hk
    obtain ⟨hok, hk2⟩ := lookP_ok h1
    have hk1 := hok.kind_in
    rcases h.write hok with ⟨A', D', e, hw, hall, hnx⟩ | ⟨A', D', c, e, hc, hw, hall, hnx⟩
    · rw [e]
      dsimp only
      rw [if_neg (by decide)]
      exact .inl ⟨A', D', rfl, hok, by omega, h1, h2, hw, hall, hnx⟩
    · rw [e]
      dsimp only
      rw [if_pos hc]
      exact .inr ⟨A', D', 0, false, c, rfl, .inl hc, hw, hall, hnx⟩

/-- A mark. -/
theorem PaWell.mark {s : PPart} {A : ALog} {D : PDisk} (h : PaWell s A D) (pid ep : Int) (yes : Bool) :
    (∃ A' D' o, s.mark A.toP D pid ep yes = ⟨s.took (markOf pid ep yes) A.next, A'.toP, D', 0, false, 0⟩ ∧ (markOf pid ep yes).ok ∧ openOf s.opens pid = some o ∧ PaWell (s.took (markOf pid ep yes) A.next) A' D' ∧ A'.all = A.all ++ [⟨A.next, (markOf pid ep yes).len, (markOf pid ep yes).lay⟩] ∧ A'.next = A.next + (markOf pid ep yes).len) ∨
    (∃ A' D' c, s.mark A.toP D pid ep yes = ⟨s, A'.toP, D', 0, false, c⟩ ∧ PaWell s A' D' ∧ A'.all = A.all ∧ A'.next = A.next) := by
  unfold PPart.mark
  by_cases hok : (markOf pid ep yes).ok
  · rw [if_neg (fun h9 => h9 hok), if_neg (fun h9 => h9 h.good.e)]
    by_cases hp : (s.prods.any fun x => decide (x.pid = pid) && decide (ep < x.epoch)) = true
    · rw [if_pos hp]
      exact .inr ⟨A, D, 8, rfl, h, rfl, rfl⟩
    · rw [if_neg hp]
      cases ho : openOf s.opens pid with
      | none => exact .inr ⟨A, D, 0, rfl, h, rfl, rfl⟩
      | some o =>
        dsimp only
        rcases h.write hok with ⟨A', D', e, hw, hall, hnx⟩ | ⟨A', D', c, e, hc, hw, hall, hnx⟩
        · rw [e]
          exact .inl ⟨A', D', o, rfl, hok, rfl, hw, hall, hnx⟩
        · rw [e]
          exact .inr ⟨A', D', c, rfl, hw, hall, hnx⟩
  · rw [if_pos hok]
    exact .inr ⟨A, D, 1, rfl, h, rfl, rfl⟩

theorem RowInv.same {rows : List PRow} {s : PPart} {A A' : ALog} (h : RowInv rows s A) (ha : A'.all = A.all) (hn : A'.next = A.next) : RowInv rows s A' :=
  ⟨by rw [ha]; exact h.data, by rw [hn]; exact h.ok, h.asc, h.fin, h.opn, h.gone, h.first, h.one, by rw [hn]; exact h.last⟩
end Go.Proofs.YtgjkjkeeblbjlaaGreatDoor

namespace Go.Proofs.YtgjkjkeeblbjlaaGreatDoor
open Go.RowKit

/-- A row of the caller's own that is none of theirs. -/
structure Far (w : World) (S SL SD : Nat → Prop) (base : Nat) (e : TypeId) (size : Nat) (v : Value) (n : Nat) (xs : List Value) : Prop where
  row : w.ownsRow base e size v n xs
  far : ∀ k, v.ownBlock = some k → Aloof k w S SL SD

/-- A block of the caller's own that is none of theirs. -/
structure FarB (w : World) (S SL SD : Nat → Prop) (b : Nat) (c : Array Value) (T : TypeId) : Prop where
  blk : Blk w b c T
  far : Aloof b w S SL SD

section
variable {ω : Type} {X : Thing ω} {w wr w0 w1 w2 : World} {l d : Nat} {S SL SD : Nat → Prop} {O O2 : ω} {L L2 : PLog} {D D2 : PDisk} {base : Nat} {e : TypeId} {size : Nat} {v : Value} {n : Nat} {xs : List Value}

theorem far_same (hr : w.ownsRow base e size v n xs) (hk : ∀ k, v.ownBlock = some k → w2.heap[k]? = w.heap[k]?) : w2.ownsRow base e size v n xs := by
  refine ⟨hr.1, ?_⟩
  rcases hr.2 with h2 | ⟨g, c, cur, hv, hg, hh, r⟩
  · exact .inl h2
  · exact .inr ⟨g, c, cur, hv, hg, (hk g (by rw [hv]; rfl)).trans hh, r⟩

theorem Far.below (h : Far w S SL SD base e size v n xs) (hb : Below w.heap.size w w1) : Far w1 S SL SD base e size v n xs :=
  ⟨own_bel h.row hb, fun k hk => (h.far k hk).below hb⟩
theorem FarB.below {b : Nat} {cs : Array Value} {T : TypeId} (h : FarB w S SL SD b cs T) (hb : Below w.heap.size w w1) : FarB w1 S SL SD b cs T :=
  ⟨h.blk.below' hb, h.far.below hb⟩

/-- A row that was made behind them. -/
theorem Trio.farR (h : Trio X w0 l d S SL SD O L D) (hr : w.ownsRow w0.heap.size e size v n xs) : Far w S SL SD 0 e size v n xs :=
  ⟨own_base hr (Nat.zero_le _), fun k hk => h.aloof (hr.lt k hk).1 (hr.lt k hk).2⟩
/-- A block that was made behind them. -/
theorem Trio.farB (h : Trio X w0 l d S SL SD O L D) {b : Nat} {cs : Array Value} {T : TypeId} (hr : Blk w b cs T) (hb : w0.heap.size ≤ b) : FarB w S SL SD b cs T :=
  ⟨hr, h.aloof hb hr.lt⟩

/-- A call on them: rows and blocks of the caller's own stay. -/
theorem TrioIn.go (h : TrioIn X w wr l d S SL SD O L D) (hto : TrioTo X wr w2 l d S SL SD O2 L2 D2) :
    ∃ S2 SL2 SD2, TrioIn X w w2 l d S2 SL2 SD2 O2 L2 D2 ∧ (∀ base e size v n xs, Far wr S SL SD base e size v n xs → Far w2 S2 SL2 SD2 base e size v n xs) ∧ ∀ b cs T, FarB wr S SL SD b cs T → FarB w2 S2 SL2 SD2 b cs T := by
  obtain ⟨S2, SL2, SD2, a, b⟩ := h.to hto
  exact ⟨S2, SL2, SD2, a, fun base e size v n xs h9 => ⟨far_same h9.row (fun k hk => (b k (h9.far k hk)).2), fun k hk => (b k (h9.far k hk)).1⟩, fun g cs T h9 => ⟨(b g h9.far).2.trans h9.blk, (b g h9.far).1⟩⟩

theorem Trio.frames (h : Trio X w l d S SL SD O L D) {F : Nat → Prop} (hf : Fr F w w2) (hn : ∀ k, (S k ∨ SL k ∨ SD k) → ¬ F k) : Trio X w2 l d S SL SD O L D :=
  ⟨X.fr h.obj hf (fun k hk => hn k (.inl hk)), h.log.fr hf (fun k hk => hn k (.inr (.inl hk))), h.disk.fr hf (fun k hk => hn k (.inr (.inr hk)))⟩

/-- Blocks of the caller's own are written to. -/
theorem TrioIn.frames (h : TrioIn X w wr l d S SL SD O L D) {F : Nat → Prop} (hf : Fr F wr w2) (hF : ∀ k, F k → w.heap.size ≤ k) (hn : ∀ k, (S k ∨ SL k ∨ SD k) → ¬ F k) : TrioIn X w w2 l d S SL SD O L D :=
  ⟨h.trio.frames hf hn, h.bel.trans (hf.to_below h.bel.size (fun k hk h9 => by have := hF k h9; omega)), h.s, h.sl, h.sd⟩

theorem Aloof.frames {g : Nat} {F : Nat → Prop} (h : Aloof g w S SL SD) (hf : Fr F w w2) : Aloof g w2 S SL SD := ⟨by have := h.lt; have := hf.size; omega, h.s, h.sl, h.sd⟩

theorem TrioIn.lt (h : TrioIn X w wr l d S SL SD O L D) {k : Nat} (hk : S k ∨ SL k ∨ SD k) : k < wr.heap.size := by
  rcases hk with hk | hk | hk
  · exact Thing.lt h.trio.obj hk
  · exact h.trio.log.lt hk
  · exact h.trio.disk.lt hk
theorem TrioIn.ge (h : TrioIn X w wr l d S SL SD O L D) {k : Nat} (hk : S k ∨ SL k ∨ SD k) : w.heap.size ≤ k := by
  rcases hk with hk | hk | hk
  · exact h.s k hk
  · exact h.sl k hk
  · exact h.sd k hk
theorem TrioIn.since (h : TrioIn X w0 wr l d S SL SD O L D) (hb : Below w.heap.size w w0) : TrioIn X w wr l d S SL SD O L D := by
  have hsz := hb.size
  exact ⟨h.trio, bel_next hb h.bel, fun k hk => by have := h.s k hk; omega, fun k hk => by have := h.sl k hk; omega, fun k hk => by have := h.sd k hk; omega⟩

/-- A row of the caller's own is written to, or grows: what is none of its block stays. -/
theorem Aloof.notIn {g : Nat} (h : Aloof g w S SL SD) : ∀ k, (S k ∨ SL k ∨ SD k) → ¬ k = g := by
  rintro k hk rfl
  rcases hk with hk | hk | hk
  · exact h.s hk
  · exact h.sl hk
  · exact h.sd hk
theorem row_blk9 (h : w.ownsRow base e size v n xs) {k : Nat} (hk : v.ownBlock = some k) : ∃ c, Blk w k c e := by
  rcases h.2 with ⟨rfl, _⟩ | ⟨g, cap, cur, rfl, _, hh, _⟩
  · cases hk
  · simp only [Value.ownBlock, Option.some.injEq] at hk
    subst hk
    exact ⟨cur, hh⟩

/-- Types that are none of a thing's, its log's, its disk's. -/
structure OtherT (X : Thing ω) (e : TypeId) : Prop where
  x : e ∉ X.types
  y : e ≠ 122 ∧ e ≠ 147 ∧ e ≠ 194 ∧ e ≠ 96 ∧ e ≠ 119

theorem Trio.apartT (h : Trio X w l d S SL SD O L D) (hr : w.ownsRow base e size v n xs) (ht : OtherT X e) : ∀ k, (S k ∨ SL k ∨ SD k) → ¬ v.ownBlock = some k := by
  intro k hk h9
  obtain ⟨c, hc⟩ := row_blk9 hr h9
  exact h.not hc ht.x ht.y hk

theorem Trio.farT (h : Trio X w l d S SL SD O L D) (hr : w.ownsRow base e size v n xs) (ht : OtherT X e) : Far w S SL SD base e size v n xs := by
  refine ⟨hr, fun k hk => ?_⟩
  have h9 := fun h8 => h.apartT hr ht k h8 hk
  exact ⟨(hr.lt k hk).2, fun h8 => h9 (.inl h8), fun h8 => h9 (.inr (.inl h8)), fun h8 => h9 (.inr (.inr h8))⟩
theorem Trio.farBT {b : Nat} {cs : Array Value} {T : TypeId} (h : Trio X w l d S SL SD O L D) (hr : Blk w b cs T) (ht : OtherT X T) : FarB w S SL SD b cs T := by
  have h9 := h.not hr ht.x ht.y
  exact ⟨hr, ⟨hr.lt, fun h8 => h9 (.inl h8), fun h8 => h9 (.inr (.inl h8)), fun h8 => h9 (.inr (.inr h8))⟩⟩

/-- A row of the caller's own grows. -/
theorem TrioIn.grown (h : TrioIn X w wr l d S SL SD O L D) (hr : wr.ownsRow base e size v n xs) (hbase : w.heap.size ≤ base) (ht : OtherT X e) (hg : wr.grownBy w2 v.ownBlock) : TrioIn X w w2 l d S SL SD O L D :=
  h.frames (fr_grown hg) (fun k hk => Nat.le_trans hbase (hr.lt k hk).1) (h.trio.apartT hr ht)

/-- A cell of a row of the caller's own is written. -/
theorem TrioIn.cell {g m cap : Nat} (h : TrioIn X w wr l d S SL SD O L D) (hr : wr.ownsRow base e size (.slice (some ⟨g, 0, none⟩) m cap) n xs) (hbase : w.heap.size ≤ base) (ht : OtherT X e) (j : Nat) (u : Value) : TrioIn X w (wr.setCell ⟨g, j, none⟩ u) l d S SL SD O L D := by
  have hg := hr.lt g rfl
  have hn := h.trio.apartT hr ht
  refine h.frames (F := fun k => k = g) ((Fr.refl (fun k => k = g) wr).setCell (p := ⟨g, j, none⟩) (.inl rfl) _) (fun k hk => by subst hk; exact Nat.le_trans hbase hg.1) (fun k hk e => ?_)
  subst e
  exact hn _ hk rfl

/-- A cell of a block of the caller's own is written. -/
theorem TrioIn.cellB {b : Nat} {cs : Array Value} {T : TypeId} (h : TrioIn X w wr l d S SL SD O L D) (hr : Blk wr b cs T) (hb : w.heap.size ≤ b) (ht : OtherT X T) (j : Nat) (u : Value) : TrioIn X w (wr.setCell ⟨b, j, none⟩ u) l d S SL SD O L D := by
  have h9 := h.trio.not hr ht.x ht.y
  refine h.frames (F := fun k => k = b) ((Fr.refl (fun k => k = b) wr).setCell (p := ⟨b, j, none⟩) (.inl rfl) _) (fun k hk => by subst hk; exact hb) (fun k hk e => ?_)
  subst e
  exact h9 hk

theorem row_off {b2 : Nat} {e2 : TypeId} {s2 n2 : Nat} {v2 : Value} {x2 : List Value} (hr : w.ownsRow base e size v n xs) (hr2 : w.ownsRow b2 e2 s2 v2 n2 x2) (hne : e ≠ e2) : ∀ k, v.ownBlock = some k → ¬ v2.ownBlock = some k := by
  intro k hk h9
  obtain ⟨c, hc⟩ := row_blk9 hr hk
  obtain ⟨c2, hc2⟩ := row_blk9 hr2 h9
  exact hne (hc.inj hc2).2
theorem blk_off {b : Nat} {cs : Array Value} {T : TypeId} (hb : Blk w b cs T) (hr2 : w.ownsRow base e size v n xs) (hne : T ≠ e) : ¬ v.ownBlock = some b := by
  intro h9
  obtain ⟨c2, hc2⟩ := row_blk9 hr2 h9
  exact hne (hb.inj hc2).2

/-- Another row stays when one grows, when a cell of one is written. -/
theorem row_byGrown {b2 : Nat} {e2 : TypeId} {s2 n2 : Nat} {v2 : Value} {x2 : List Value} (hr : w.ownsRow base e size v n xs) (hr2 : w.ownsRow b2 e2 s2 v2 n2 x2) (hne : e ≠ e2) (hg : w.grownBy w2 v2.ownBlock) : w2.ownsRow base e size v n xs :=
  row_fr hr (fr_grown hg) (row_off hr hr2 hne)
theorem row_byCell {b2 : Nat} {e2 : TypeId} {s2 n2 g m cap : Nat} {x2 : List Value} (hr : w.ownsRow base e size v n xs) (hr2 : w.ownsRow b2 e2 s2 (.slice (some ⟨g, 0, none⟩) m cap) n2 x2) (hne : e ≠ e2) (j : Nat) (u : Value) : (w.setCell ⟨g, j, none⟩ u).ownsRow base e size v n xs :=
  row_fr hr (S := fun k => k = g) ((Fr.refl (fun k => k = g) w).setCell (p := ⟨g, j, none⟩) (.inl rfl) _) (fun k hk h9 => by subst h9; exact row_off hr hr2 hne _ hk rfl)
theorem blk_byCell {b : Nat} {cs : Array Value} {T : TypeId} {b2 : Nat} {e2 : TypeId} {s2 n2 g m cap : Nat} {x2 : List Value} (hb : Blk w b cs T) (hr2 : w.ownsRow b2 e2 s2 (.slice (some ⟨g, 0, none⟩) m cap) n2 x2) (hne : T ≠ e2) (j : Nat) (u : Value) : Blk (w.setCell ⟨g, j, none⟩ u) b cs T :=
  hb.fr (S := fun k => k = g) ((Fr.refl (fun k => k = g) w).setCell (p := ⟨g, j, none⟩) (.inl rfl) _) (fun h9 => by subst h9; exact blk_off hb hr2 hne rfl)
end
end Go.Proofs.YtgjkjkeeblbjlaaGreatDoor
