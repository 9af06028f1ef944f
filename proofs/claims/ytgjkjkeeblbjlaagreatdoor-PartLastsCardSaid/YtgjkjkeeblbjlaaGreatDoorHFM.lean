/-
  A thing in memory that has a log on a disk: what calls leave of the three. No conditions.
-/
import Derived.Test.YtgjkjkeeblbjlaaGreatDoorGEM
set_option maxRecDepth 100000
namespace Go.Proofs.YtgjkjkeeblbjlaaGreatDoor
open Go.RowKit

/-- A kind of thing in memory: how it lies there, of which types its blocks are. -/
structure Thing (ω : Type) where
  held : World → (Nat → Prop) → ω → Prop
  types : List TypeId
  fr : ∀ {w w' : World} {S S0 : Nat → Prop} {O : ω}, held w S O → Fr S0 w w' → (∀ k, S k → ¬ S0 k) → held w' S O
  kind : ∀ {w : World} {S : Nat → Prop} {O : ω} {k : Nat}, held w S O → S k → ∃ c T, Blk w k c T ∧ T ∈ types
  apart : ∀ T ∈ types, T ≠ 122 ∧ T ≠ 147 ∧ T ≠ 194 ∧ T ≠ 96 ∧ T ≠ 119

variable {ω : Type} {X : Thing ω}

theorem Thing.below {w w' : World} {S : Nat → Prop} {O : ω} (h : X.held w S O) (hb : Below w.heap.size w w') : X.held w' S O := X.fr h (Fr.of_below (S := fun _ => False) hb) (fun _ _ h => h)
theorem Thing.lt {w : World} {S : Nat → Prop} {O : ω} (h : X.held w S O) {k : Nat} (hk : S k) : k < w.heap.size := by
  obtain ⟨c, T, hc, _⟩ := X.kind h hk
  exact hc.lt
theorem Thing.notLog {w : World} {S SL : Nat → Prop} {O : ω} {l d : Nat} {L : PLog} (h : X.held w S O) (hl : LogAt w l d SL L) {k : Nat} (hk : S k) : ¬ SL k := by
  obtain ⟨c, T, hc, hT⟩ := X.kind h hk
  obtain ⟨h1, h2, h3, _⟩ := X.apart T hT
  exact hl.other hc h1 h2 h3
theorem Thing.notDisk {w : World} {S SD : Nat → Prop} {O : ω} {d : Nat} {D : PDisk} (h : X.held w S O) (hd : DiskAt w d SD D) {k : Nat} (hk : S k) : ¬ SD k := by
  obtain ⟨c, T, hc, hT⟩ := X.kind h hk
  obtain ⟨_, _, _, h1, h2⟩ := X.apart T hT
  exact hd.other hc h1 h2

/-- What a call makes of the thing alone. -/
def Thing.to (X : Thing ω) (w w' : World) (S : Nat → Prop) (O' : ω) : Prop := ∃ S', X.held w' S' O' ∧ Fr S w w' ∧ ∀ k, S' k → S k ∨ w.heap.size ≤ k

theorem Thing.to_of_below {w w' : World} {S : Nat → Prop} {O : ω} (h : X.held w S O) (hb : Below w.heap.size w w') : X.to w w' S O := ⟨S, Thing.below h hb, Fr.of_below hb, fun _ hk => .inl hk⟩
theorem Thing.to_after {w w1 w2 : World} {S : Nat → Prop} {O' : ω} (hb : Below w.heap.size w w1) (h : X.to w1 w2 S O') : X.to w w2 S O' := by
  obtain ⟨S', a, f, s⟩ := h
  have hsz := hb.size
  exact ⟨S', a, (Fr.of_below hb).trans f, fun k hk => (s k hk).imp id (by omega)⟩

/-- A thing, its log, its disk. -/
structure Trio (X : Thing ω) (w : World) (l d : Nat) (S SL SD : Nat → Prop) (O : ω) (L : PLog) (D : PDisk) : Prop where
  obj : X.held w S O
  log : LogAt w l d SL L
  disk : DiskAt w d SD D

def TrioTo (X : Thing ω) (w w' : World) (l d : Nat) (S SL SD : Nat → Prop) (O' : ω) (L' : PLog) (D' : PDisk) : Prop :=
  ∃ S' SL' SD', Trio X w' l d S' SL' SD' O' L' D' ∧ Fr (fun k => S k ∨ SL k ∨ SD k) w w' ∧ (∀ k, S' k → S k ∨ w.heap.size ≤ k) ∧ (∀ k, SL' k → SL k ∨ w.heap.size ≤ k) ∧ (∀ k, SD' k → SD k ∨ w.heap.size ≤ k)

section
variable {w w0 w1 w2 : World} {l d : Nat} {S SL SD : Nat → Prop} {O O1 O2 : ω} {L L1 L2 : PLog} {D D1 D2 : PDisk}

theorem Trio.below (h : Trio X w l d S SL SD O L D) (hb : Below w.heap.size w w1) : Trio X w1 l d S SL SD O L D := ⟨Thing.below h.obj hb, h.log.below hb, h.disk.below hb⟩

theorem TrioTo.of_below (h : Trio X w l d S SL SD O L D) (hb : Below w.heap.size w w1) : TrioTo X w w1 l d S SL SD O L D :=
  ⟨S, SL, SD, h.below hb, Fr.of_below hb, fun _ hk => .inl hk, fun _ hk => .inl hk, fun _ hk => .inl hk⟩

theorem TrioTo.next {S1 SL1 SD1 : Nat → Prop} (h : Trio X w1 l d S1 SL1 SD1 O1 L1 D1 ∧ Fr (fun k => S k ∨ SL k ∨ SD k) w w1 ∧ (∀ k, S1 k → S k ∨ w.heap.size ≤ k) ∧ (∀ k, SL1 k → SL k ∨ w.heap.size ≤ k) ∧ (∀ k, SD1 k → SD k ∨ w.heap.size ≤ k))
    (h2 : TrioTo X w1 w2 l d S1 SL1 SD1 O2 L2 D2) : TrioTo X w w2 l d S SL SD O2 L2 D2 := by
  obtain ⟨a1, f1, s1, t1, u1⟩ := h
  obtain ⟨S2, SL2, SD2, a2, f2, s2, t2, u2⟩ := h2
  have hsz := f1.size
  refine ⟨S2, SL2, SD2, a2, ⟨f2.os.trans f1.os, f2.tape.trans f1.tape, f2.output.trans f1.output, Nat.le_trans f1.size f2.size, fun k hk hn => ?_⟩, fun k hk => ?_, fun k hk => ?_, fun k hk => ?_⟩
  · refine (f2.block k (by omega) (fun h => ?_)).trans (f1.block k hk hn)
    rcases h with h | h | h
    · exact (s1 k h).elim (fun h => hn (.inl h)) (by omega)
    · exact (t1 k h).elim (fun h => hn (.inr (.inl h))) (by omega)
    · exact (u1 k h).elim (fun h => hn (.inr (.inr h))) (by omega)
  · rcases s2 k hk with h | h
    · exact s1 k h
    · exact .inr (by omega)
  · rcases t2 k hk with h | h
    · exact t1 k h
    · exact .inr (by omega)
  · rcases u2 k hk with h | h
    · exact u1 k h
    · exact .inr (by omega)

theorem TrioTo.trans (h : TrioTo X w w1 l d S SL SD O1 L1 D1) (h2 : ∀ S1 SL1 SD1, Trio X w1 l d S1 SL1 SD1 O1 L1 D1 → TrioTo X w1 w2 l d S1 SL1 SD1 O2 L2 D2) : TrioTo X w w2 l d S SL SD O2 L2 D2 := by
  obtain ⟨S1, SL1, SD1, a1⟩ := h
  exact TrioTo.next a1 (h2 S1 SL1 SD1 a1.1)

theorem TrioTo.then_below (h : TrioTo X w w1 l d S SL SD O1 L1 D1) (hb : Below w1.heap.size w1 w2) : TrioTo X w w2 l d S SL SD O1 L1 D1 :=
  h.trans (fun _ _ _ h1 => .of_below h1 hb)

theorem TrioTo.after (hb : Below w.heap.size w w1) (h : TrioTo X w1 w2 l d S SL SD O1 L1 D1) : TrioTo X w w2 l d S SL SD O1 L1 D1 := by
  obtain ⟨S1, SL1, SD1, a1, f1, s1, t1, u1⟩ := h
  have hsz := hb.size
  exact ⟨S1, SL1, SD1, a1, (Fr.of_below hb).trans f1, fun k hk => (s1 k hk).imp id (by omega), fun k hk => (t1 k hk).imp id (by omega), fun k hk => (u1 k hk).imp id (by omega)⟩

/-- The log is called. -/
theorem Trio.log_to (h : Trio X w l d S SL SD O L D) (hto : LogTo w w1 l d SL SD L1 D1) : TrioTo X w w1 l d S SL SD O L1 D1 := by
  obtain ⟨SL1, SD1, a1, b1, f1, s1, t1⟩ := hto
  refine ⟨S, SL1, SD1, ⟨X.fr h.obj f1 (fun k hk h9 => ?_), a1, b1⟩, f1.mono (fun k _ hk => .inr hk), fun _ hk => .inl hk, s1, t1⟩
  rcases h9 with h9 | h9
  · exact Thing.notLog h.obj h.log hk h9
  · exact Thing.notDisk h.obj h.disk hk h9

/-- The disk is called. -/
theorem Trio.disk_to (h : Trio X w l d S SL SD O L D) (hto : DiskTo w w1 d SD D1) : TrioTo X w w1 l d S SL SD O L D1 :=
  h.log_to (LogTo.disk h.log (Below.refl _ _) hto (fun _ hk => h.log.apart h.disk hk))

/-- The thing turns. -/
theorem Trio.obj_to (h : Trio X w l d S SL SD O L D) (hto : X.to w w1 S O1) : TrioTo X w w1 l d S SL SD O1 L D := by
  obtain ⟨S1, a1, f1, s1⟩ := hto
  exact ⟨S1, SL, SD, ⟨a1, h.log.fr f1 (fun k hk h9 => Thing.notLog h.obj h.log h9 hk), h.disk.fr f1 (fun k hk h9 => Thing.notDisk h.obj h.disk h9 hk)⟩, f1.mono (fun k _ hk => .inl hk), s1, fun _ hk => .inl hk, fun _ hk => .inl hk⟩

theorem Trio.not {b : Nat} {c : Array Value} {T : TypeId} (h : Trio X w l d S SL SD O L D) (hb : Blk w b c T) (h1 : T ∉ X.types) (h2 : T ≠ 122 ∧ T ≠ 147 ∧ T ≠ 194 ∧ T ≠ 96 ∧ T ≠ 119) : ¬ (S b ∨ SL b ∨ SD b) := by
  rintro (h9 | h9 | h9)
  · obtain ⟨c2, T2, h3, h4⟩ := X.kind h.obj h9
    have h5 := (hb.inj h3).2
    subst h5
    exact h1 h4
  · have hb2 : w.heap[b]? = some (.cells c T (0, 0)) := hb
    exact h.log.other hb2 h2.1 h2.2.1 h2.2.2.1 h9
  · exact h.disk.other hb h2.2.2.2.1 h2.2.2.2.2 h9

/-- A block of another type stays. -/
theorem Trio.blk (h : Trio X w l d S SL SD O L D) (hto : TrioTo X w w1 l d S SL SD O1 L1 D1) {b : Nat} {c : Array Value} {T : TypeId} (hb : Blk w b c T) (h1 : T ∉ X.types) (h2 : T ≠ 122 ∧ T ≠ 147 ∧ T ≠ 194 ∧ T ≠ 96 ∧ T ≠ 119) : Blk w1 b c T := by
  obtain ⟨S1, SL1, SD1, a1, f1, _⟩ := hto
  exact hb.fr f1 (h.not hb h1 h2)

variable {base : Nat} {e : TypeId} {size : Nat} {v : Value} {n : Nat} {xs : List Value}

/-- A row of another type stays. -/
theorem Trio.typed (h : Trio X w l d S SL SD O L D) (hto : TrioTo X w w1 l d S SL SD O1 L1 D1) (hr : w.ownsRow base e size v n xs) (h1 : e ∉ X.types) (h2 : e ≠ 122 ∧ e ≠ 147 ∧ e ≠ 194 ∧ e ≠ 96 ∧ e ≠ 119) : w1.ownsRow base e size v n xs := by
  obtain ⟨S1, SL1, SD1, a1, f1, _⟩ := hto
  refine row_fr hr f1 (fun k hk => ?_)
  rcases hr.2 with ⟨h4, _⟩ | ⟨g, c, cur, h4, _, h6, _⟩
  · rw [h4] at hk; cases hk
  · rw [h4] at hk
    injection hk with hk
    subst hk
    exact h.not h6 h1 h2

/-- A block is none of theirs. -/
structure Aloof (g : Nat) (wr : World) (S SL SD : Nat → Prop) : Prop where
  lt : g < wr.heap.size
  s : ¬ S g
  sl : ¬ SL g
  sd : ¬ SD g

theorem Aloof.below {g : Nat} (h : Aloof g w S SL SD) (hb : Below w.heap.size w w1) : Aloof g w1 S SL SD :=
  ⟨by have := h.lt; have := hb.size; omega, h.s, h.sl, h.sd⟩

/-- What was made behind the three is none of theirs. -/
theorem Trio.aloof (h : Trio X w0 l d S SL SD O L D) {g : Nat} (h1 : w0.heap.size ≤ g) (h2 : g < w.heap.size) : Aloof g w S SL SD :=
  ⟨h2, fun h9 => by have := Thing.lt h.obj h9; omega, fun h9 => by have := h.log.lt h9; omega, fun h9 => by have := h.disk.lt h9; omega⟩

theorem row_kept {g m cap : Nat} (hr : w.ownsRow base e size (.slice (some ⟨g, 0, none⟩) m cap) n xs) {S0 : Nat → Prop} (hf : Fr S0 w w1) (hn : ¬ S0 g) : w1.ownsRow base e size (.slice (some ⟨g, 0, none⟩) m cap) n xs :=
  row_fr hr hf (fun k hk => by simp only [Value.ownBlock, Option.some.injEq] at hk; subst hk; exact hn)
end

/-- The three, all made since w. -/
structure TrioIn (X : Thing ω) (w wr : World) (l d : Nat) (S SL SD : Nat → Prop) (O : ω) (L : PLog) (D : PDisk) : Prop where
  trio : Trio X wr l d S SL SD O L D
  bel : Below w.heap.size w wr
  s : ∀ k, S k → w.heap.size ≤ k
  sl : ∀ k, SL k → w.heap.size ≤ k
  sd : ∀ k, SD k → w.heap.size ≤ k

section
variable {w wr w2 : World} {l d : Nat} {S SL SD : Nat → Prop} {O O2 : ω} {L L2 : PLog} {D D2 : PDisk}

theorem TrioIn.below (h : TrioIn X w wr l d S SL SD O L D) (hb : Below wr.heap.size wr w2) : TrioIn X w w2 l d S SL SD O L D :=
  ⟨h.trio.below hb, bel_next h.bel hb, h.s, h.sl, h.sd⟩

/-- A call on them: they are made since w, and what is none of theirs stays. -/
theorem TrioIn.to (h : TrioIn X w wr l d S SL SD O L D) (hto : TrioTo X wr w2 l d S SL SD O2 L2 D2) :
    ∃ S2 SL2 SD2, TrioIn X w w2 l d S2 SL2 SD2 O2 L2 D2 ∧ ∀ g, Aloof g wr S SL SD → Aloof g w2 S2 SL2 SD2 ∧ w2.heap[g]? = wr.heap[g]? := by
  obtain ⟨S2, SL2, SD2, a, f, s, t, u⟩ := hto
  have hsz := h.bel.size
  refine ⟨S2, SL2, SD2, ⟨a, h.bel.trans (f.to_below hsz (fun k hk h9 => ?_)), fun k hk => ?_, fun k hk => ?_, fun k hk => ?_⟩, fun g ha => ⟨⟨by have := f.size; have := ha.lt; omega, fun h9 => ?_, fun h9 => ?_, fun h9 => ?_⟩, f.block g ha.lt ?_⟩⟩
  · rcases h9 with h9 | h9 | h9
    · have := h.s k h9; omega
    · have := h.sl k h9; omega
    · have := h.sd k h9; omega
  · rcases s k hk with h9 | h9
    · exact h.s k h9
    · omega
  · rcases t k hk with h9 | h9
    · exact h.sl k h9
    · omega
  · rcases u k hk with h9 | h9
    · exact h.sd k h9
    · omega
  · have hlt := ha.lt
    rcases s g h9 with h9 | h9
    · exact ha.s h9
    · omega
  · have hlt := ha.lt
    rcases t g h9 with h9 | h9
    · exact ha.sl h9
    · omega
  · have hlt := ha.lt
    rcases u g h9 with h9 | h9
    · exact ha.sd h9
    · omega
  · rintro (h9 | h9 | h9)
    · exact ha.s h9
    · exact ha.sl h9
    · exact ha.sd h9

/-- Rows of other types stay, too. -/
theorem TrioIn.call (h : TrioIn X w wr l d S SL SD O L D) (hto : TrioTo X wr w2 l d S SL SD O2 L2 D2) : ∃ S2 SL2 SD2, TrioIn X w w2 l d S2 SL2 SD2 O2 L2 D2 := by
  obtain ⟨S2, SL2, SD2, h1, _⟩ := h.to hto
  exact ⟨S2, SL2, SD2, h1⟩
end

/-- A row of the caller's own whose block is none of theirs stays. -/
theorem row_aloof {wr w2 : World} {base : Nat} {e : TypeId} {size g m cap n : Nat} {xs : List Value} (hr : wr.ownsRow base e size (.slice (some ⟨g, 0, none⟩) m cap) n xs) (hk : w2.heap[g]? = wr.heap[g]?) : w2.ownsRow base e size (.slice (some ⟨g, 0, none⟩) m cap) n xs := by
  refine ⟨hr.1, ?_⟩
  rcases hr.2 with h2 | ⟨g', c, cur, hv, hg, hh, r⟩
  · exact .inl h2
  · refine .inr ⟨g', c, cur, hv, hg, ?_, r⟩
    injection hv with hv _ _
    injection hv with hv
    injection hv with hv _ _
    subst hv
    exact hk.trans hh
end Go.Proofs.YtgjkjkeeblbjlaaGreatDoor
