/-
  What a call on a log leaves of other memory. No conditions.
-/
import Derived.Test.YtnibpknhpjcamaaGreatDoorFetchesM
set_option maxRecDepth 100000
namespace Go.Proofs.YtnibpknhpjcamaaGreatDoor
open Go.RowKit

/-- A log and its disk, all of it made since w. -/
structure LogIn (w wr : World) (ll d : Nat) (S SD : Nat → Prop) (L : PLog) (D : PDisk) : Prop where
  log : LogAt wr ll d S L
  disk : DiskAt wr d SD D
  s : ∀ i, S i → w.heap.size ≤ i
  sd : ∀ i, SD i → w.heap.size ≤ i
  bel : Below w.heap.size w wr

theorem LogIn.below {w wr w1 : World} {ll d : Nat} {S SD : Nat → Prop} {L : PLog} {D : PDisk} (h : LogIn w wr ll d S SD L D) (hb : Below wr.heap.size wr w1) : LogIn w w1 ll d S SD L D :=
  ⟨h.log.below hb, h.disk.below hb, h.s, h.sd, bel_next h.bel hb⟩

/-- What stays across a call on a log. -/
structure Keeps (wa w5 : World) : Prop where
  row : ∀ {base : Nat} {e : TypeId} {size : Nat} {v : Value} {n : Nat} {xs : List Value}, wa.ownsRow base e size v n xs → e ≠ 97 → e ≠ 99 → e ≠ 54 → e ≠ 110 → e ≠ 112 → w5.ownsRow base e size v n xs
  blk : ∀ {b : Nat} {c : Array Value} {T : TypeId}, Blk wa b c T → T ≠ 97 → T ≠ 99 → T ≠ 54 → T ≠ 110 → T ≠ 112 → Blk w5 b c T
  size : wa.heap.size ≤ w5.heap.size

theorem Keeps.of_below {wa w5 : World} (h : Below wa.heap.size wa w5) : Keeps wa w5 := ⟨fun h1 _ _ _ _ _ => own_bel h1 h, fun h1 _ _ _ _ _ => h1.below' h, h.size⟩
theorem Keeps.trans {a b c : World} (h : Keeps a b) (k : Keeps b c) : Keeps a c :=
  ⟨fun h1 a1 a2 a3 a4 a5 => k.row (h.row h1 a1 a2 a3 a4 a5) a1 a2 a3 a4 a5, fun h1 a1 a2 a3 a4 a5 => k.blk (h.blk h1 a1 a2 a3 a4 a5) a1 a2 a3 a4 a5, Nat.le_trans h.size k.size⟩

theorem LogIn.call {w wa w5 : World} {ll d : Nat} {S SD : Nat → Prop} {L L' : PLog} {D D' : PDisk} (h : LogIn w wa ll d S SD L D) (hto : LogTo wa w5 ll d S SD L' D') :
    (∃ S' SD', LogIn w w5 ll d S' SD' L' D') ∧ Keeps wa w5 := by
  obtain ⟨S5, SD5, hl5, hd5, hf5, hs5, hsd5⟩ := hto
  have hsz := h.bel.size
  refine ⟨⟨S5, SD5, hl5, hd5, fun i hi => ?_, fun i hi => ?_, ?_⟩, fun hr h1 h2 h3 h4 h5 => ?_, fun {b c T} hb h1 h2 h3 h4 h5 => ?_, hf5.size⟩
  · rcases hs5 i hi with h9 | h9
    · exact h.s i h9
    · omega
  · rcases hsd5 i hi with h9 | h9
    · exact h.sd i h9
    · omega
  · exact h.bel.trans (hf5.to_below hsz (fun i hi h9 => by
      rcases h9 with h9 | h9
      · have := h.s i h9; omega
      · have := h.sd i h9; omega))
  · exact row_fr hr hf5 (fun k hk h9 => by
      rcases h9 with h9 | h9
      · exact row_log hr h.log h1 h2 h3 k hk h9
      · exact row_disk hr h.disk h4 h5 k hk h9)
  · exact hb.fr hf5 (fun h9 => by
      have hb2 : wa.heap[b]? = some (.cells c T (0, 0)) := hb
      rcases h9 with h9 | h9
      · exact h.log.other hb2 h1 h2 h3 h9
      · exact h.disk.other hb h4 h5 h9)

theorem fr_grown {w w' : World} {row : Option Nat} (h : w.grownBy w' row) : Fr (fun k => row = some k) w w' :=
  ⟨h.os, h.tape, h.output, h.size, fun k hk hn => h.block k hk (fun e => hn e.symm)⟩

/-- A row of the caller's own grows: the log stays, and other blocks. -/
theorem LogIn.grown {w w5 wx w6 : World} {ll d : Nat} {S SD : Nat → Prop} {L : PLog} {D : PDisk} (h : LogIn w w5 ll d S SD L D) (ha : Below w5.heap.size w5 wx) {base : Nat} {e : TypeId} {size : Nat} {v : Value} {n : Nat} {xs : List Value} (hr : w5.ownsRow base e size v n xs) (hbase : w.heap.size ≤ base)
    (h1 : e ≠ 97) (h2 : e ≠ 99) (h3 : e ≠ 54) (h4 : e ≠ 110) (h5 : e ≠ 112) (hg : wx.grownBy w6 v.ownBlock) :
    LogIn w w6 ll d S SD L D ∧ ∀ {b : Nat} {c : Array Value} {T : TypeId}, Blk w5 b c T → T ≠ e → Blk w6 b c T := by
  have hf := fr_grown hg
  have hx := h.below ha
  have hrx := own_bel hr ha
  refine ⟨⟨hx.log.fr hf (fun k hk e => row_log hrx hx.log h1 h2 h3 k e hk), hx.disk.fr hf (fun k hk e => row_disk hrx hx.disk h4 h5 k e hk), h.s, h.sd, ?_⟩, fun {b c T} hb hT => ?_⟩
  · exact hx.bel.trans (hf.to_below hx.bel.size (fun i hi e => by have := (hr.lt i e).1; omega))
  · refine (hb.below' ha).fr hf (fun e => ?_)
    obtain ⟨c2, fz, hc⟩ := Lib.ownsRow_kind hr b e
    unfold Blk at hb
    rw [hb] at hc
    injection hc with hc
    injection hc with _ hc _
    exact hT hc
end Go.Proofs.YtnibpknhpjcamaaGreatDoor
