/-
  A disk in the memory. No conditions.
-/
import Derived.Test.YtnibpknhpjcamaaGreatDoorDiskP
import Derived.Test.YtnibpknhpjcamaaGreatDoorMap
namespace Go.Proofs.YtnibpknhpjcamaaGreatDoor
open Go.RowKit

def ptr (b : Nat) : Value := .pointer (some ⟨b, 0, none⟩)
def kvOf (x : Nat × PFile) : ByteArray × Value := (bs x.2.name, ptr x.1)

structure DiskRep (w : World) (d m : Nat) (fs : List (Nat × PFile)) (D : PDisk) : Prop where
  hdr : Blk w d #[.map (some m), .int .i64 D.room, .int .i64 D.fuse, .bool D.off] 110
  map : MapAt w m (fs.map kvOf)
  blk : ∀ x ∈ fs, Blk w x.1 #[.string (bs x.2.sure), .string (bs x.2.loose)] 112
  files : fs.map (·.2) = D.files
  nodup : (fs.map (·.1)).Nodup

/-- The blocks of a disk. -/
def foot (d m : Nat) (fs : List (Nat × PFile)) (k : Nat) : Prop := k = d ∨ k = m ∨ k ∈ fs.map (·.1)

def DiskAt (w : World) (d : Nat) (S : Nat → Prop) (D : PDisk) : Prop :=
  ∃ m fs, DiskRep w d m fs D ∧ ∀ k, S k ↔ foot d m fs k

/-- What a disk's function does. -/
def DiskTo (w w' : World) (d : Nat) (S : Nat → Prop) (D' : PDisk) : Prop :=
  ∃ S', DiskAt w' d S' D' ∧ Fr S w w' ∧ ∀ k, S' k → S k ∨ w.heap.size ≤ k

theorem DiskRep.fr {S : Nat → Prop} {w w' : World} {d m : Nat} {fs : List (Nat × PFile)} {D : PDisk} (h : DiskRep w d m fs D) (hf : Fr S w w') (hn : ∀ k, foot d m fs k → ¬ S k) : DiskRep w' d m fs D :=
  ⟨h.hdr.fr hf (hn _ (.inl rfl)), h.map.fr hf (hn _ (.inr (.inl rfl))), fun x hx => (h.blk x hx).fr hf (hn _ (.inr (.inr (List.mem_map.2 ⟨x, hx, rfl⟩)))), h.files, h.nodup⟩

theorem DiskAt.fr {S S0 : Nat → Prop} {w w' : World} {d : Nat} {D : PDisk} (h : DiskAt w d S D) (hf : Fr S0 w w') (hn : ∀ k, S k → ¬ S0 k) : DiskAt w' d S D := by
  obtain ⟨m, fs, h1, h2⟩ := h
  exact ⟨m, fs, h1.fr hf (fun k hk => hn k ((h2 k).2 hk)), h2⟩

theorem DiskRep.foot_lt {w : World} {d m : Nat} {fs : List (Nat × PFile)} {D : PDisk} (h : DiskRep w d m fs D) {k : Nat} (hk : foot d m fs k) : k < w.heap.size := by
  rcases hk with rfl | rfl | hk
  · exact h.hdr.lt
  · exact h.map.lt
  · obtain ⟨x, hx, rfl⟩ := List.mem_map.1 hk
    exact (h.blk x hx).lt

theorem DiskAt.lt {S : Nat → Prop} {w : World} {d : Nat} {D : PDisk} (h : DiskAt w d S D) {k : Nat} (hk : S k) : k < w.heap.size := by
  obtain ⟨m, fs, h1, h2⟩ := h
  exact h1.foot_lt ((h2 k).1 hk)

theorem DiskAt.below {S : Nat → Prop} {w w' : World} {d : Nat} {D : PDisk} (h : DiskAt w d S D) (hb : Below w.heap.size w w') : DiskAt w' d S D :=
  h.fr (S0 := fun _ => False) (Fr.of_below hb) (fun _ _ h => h)

theorem DiskTo.of_below {S : Nat → Prop} {w w' : World} {d : Nat} {D : PDisk} (h : DiskAt w d S D) (hb : Below w.heap.size w w') : DiskTo w w' d S D :=
  ⟨S, h.below hb, Fr.of_below hb, fun _ hk => .inl hk⟩

theorem DiskTo.trans {S : Nat → Prop} {w w1 w2 : World} {d : Nat} {D1 D2 : PDisk} (h : DiskTo w w1 d S D1) (h2 : ∀ S1, DiskAt w1 d S1 D1 → DiskTo w1 w2 d S1 D2) : DiskTo w w2 d S D2 := by
  obtain ⟨S1, a1, f1, s1⟩ := h
  obtain ⟨S2, a2, f2, s2⟩ := h2 S1 a1
  have hsz := f1.size
  refine ⟨S2, a2, ⟨f2.os.trans f1.os, f2.tape.trans f1.tape, f2.output.trans f1.output, Nat.le_trans f1.size f2.size, fun k hk hn => ?_⟩, fun k hk => ?_⟩
  · exact (f2.block k (by omega) (fun h => (s1 k h).elim hn (by omega))).trans (f1.block k hk hn)
  · rcases s2 k hk with h | h
    · exact s1 k h
    · exact .inr (by omega)

/-- The blocks of a disk are of its types: no other value's. -/
theorem DiskAt.other {S : Nat → Prop} {w : World} {d b : Nat} {D : PDisk} (h : DiskAt w d S D) {c : Array Value} {T : TypeId} (hb : Blk w b c T) (h1 : T ≠ 110) (h2 : T ≠ 112) : ¬ S b := by
  obtain ⟨m, fs, hd, hS⟩ := h
  intro hs
  rcases (hS b).1 hs with rfl | rfl | hk
  · exact h1 (hb.inj hd.hdr).2
  · exact hd.map.not_cells hb rfl
  · obtain ⟨x, hx, rfl⟩ := List.mem_map.1 hk
    exact h2 (hb.inj (hd.blk x hx)).2

section
variable {w : World} {d m : Nat} {fs : List (Nat × PFile)} {D : PDisk} (h : DiskRep w d m fs D)
include h

theorem DiskRep.dlt : d < w.heap.size := h.hdr.lt
theorem DiskRep.mlt : m < w.heap.size := h.map.lt
theorem DiskRep.dm : d ≠ m := h.map.not_cells h.hdr
theorem DiskRep.bm {x : Nat × PFile} (hx : x ∈ fs) : x.1 ≠ m := h.map.not_cells (h.blk x hx)
theorem DiskRep.bd {x : Nat × PFile} (hx : x ∈ fs) : x.1 ≠ d := by
  intro e
  have := h.hdr.inj (e ▸ h.blk x hx)
  exact absurd this.2 (by decide)
theorem DiskRep.len : fs.length = D.files.length := by rw [← h.files]; simp

/-- The cells of the header. -/
theorem DiskRep.cells : w.cell? ⟨d, 0, none⟩ = some (.map (some m)) ∧ w.cell? ⟨d, 1, none⟩ = some (.int .i64 D.room) ∧ w.cell? ⟨d, 2, none⟩ = some (.int .i64 D.fuse) ∧ w.cell? ⟨d, 3, none⟩ = some (.bool D.off) ∧
    w.frozen? ⟨d, 0, none⟩ = false ∧ w.frozen? ⟨d, 1, none⟩ = false ∧ w.frozen? ⟨d, 2, none⟩ = false ∧ w.frozen? ⟨d, 3, none⟩ = false :=
  ⟨h.hdr.cell rfl, h.hdr.cell rfl, h.hdr.cell rfl, h.hdr.cell rfl, h.hdr.free 0, h.hdr.free 1, h.hdr.free 2, h.hdr.free 3⟩

theorem DiskRep.mem {f : PFile} (hf : f ∈ D.files) : ∃ b, (b, f) ∈ fs := by
  rw [← h.files] at hf
  obtain ⟨x, hx, rfl⟩ := List.mem_map.1 hf
  exact ⟨x.1, hx⟩

theorem DiskRep.mem' {x : Nat × PFile} (hx : x ∈ fs) : x.2 ∈ D.files := by
  rw [← h.files]; exact List.mem_map.2 ⟨x, hx, rfl⟩

/-- The header with other numbers. -/
theorem DiskRep.set {w' : World} (hf : Fr (fun k => k = d) w w') {r fu : Int} {o : Bool} (hb : Blk w' d #[.map (some m), .int .i64 r, .int .i64 fu, .bool o] 110) :
    DiskRep w' d m fs { D with room := r, fuse := fu, off := o } :=
  ⟨hb, h.map.fr hf h.dm.symm, fun x hx => (h.blk x hx).fr hf (h.bd hx), h.files, h.nodup⟩

/-- Another file in the place of one. -/
theorem DiskRep.put (hs : Sorted D.files) {b : Nat} {f f' : PFile} (hm : (b, f) ∈ fs) (e : f'.name = f.name) {w' : World} (hf : Fr (fun k => k = b) w w')
    (hb : Blk w' b #[.string (bs f'.sure), .string (bs f'.loose)] 112) :
    ∃ fs', DiskRep w' d m fs' { D with files := putF D.files f' } ∧ ∀ k, foot d m fs' k ↔ foot d m fs k := by
  obtain ⟨a, c, h1, h2⟩ := putF_mem hs (h.mem' hm) e
  obtain ⟨l1, l2, h3⟩ := List.append_of_mem hm
  have hns := h.nodup
  have hbm := h.bm hm
  have hbd := h.bd hm
  have hfiles := h.files
  have hmap := h.map
  have hblk := h.blk
  have hhdr := h.hdr
  subst h3
  rw [h1] at hfiles
  simp only [List.map_append, List.map_cons] at hfiles hns
  have hsp : l1.map (·.2) = a ∧ l2.map (·.2) = c := by
    -- the same name stands once
    have hsort : Sorted (a ++ f :: c) := h1 ▸ hs
    have key : ∀ (p q r s : List PFile), p ++ f :: q = r ++ f :: s → Sorted (r ++ f :: s) → p = r ∧ q = s := by
      intro p
      induction p with
      | nil =>
        intro q r s he hso
        cases r with
        | nil => simp at he; exact ⟨rfl, he⟩
        | cons y r =>
          simp only [List.nil_append, List.cons_append, List.cons.injEq] at he
          have := (List.pairwise_cons.1 hso).1 f (by simp)
          rw [← he.1] at this
          exact absurd this (List.lt_irrefl _)
      | cons x p ih =>
        intro q r s he hso
        cases r with
        | nil =>
          simp only [List.nil_append, List.cons_append, List.cons.injEq] at he
          have := (List.pairwise_cons.1 hso).1 f (by rw [← he.2]; simp)
          exact absurd this (List.lt_irrefl _)
        | cons y r =>
          simp only [List.cons_append, List.cons.injEq] at he
          have := ih q r s he.2 (List.pairwise_cons.1 hso).2
          exact ⟨by rw [he.1, this.1], this.2⟩
    exact key _ _ _ _ hfiles hsort
  have hne : ∀ x ∈ l1 ++ l2, x.1 ≠ b := by
    intro x hx
    have hns2 := List.nodup_append.1 hns
    rcases List.mem_append.1 hx with hx | hx
    · exact hns2.2.2 _ (List.mem_map.2 ⟨x, hx, rfl⟩) _ (by simp)
    · intro e
      exact (List.nodup_cons.1 hns2.2.1).1 (by rw [← e]; exact List.mem_map.2 ⟨x, hx, rfl⟩)
  refine ⟨l1 ++ (b, f') :: l2, ⟨hhdr.fr hf (Ne.symm hbd), ?_, ?_, ?_, ?_⟩, ?_⟩
  · have e1 : (l1 ++ (b, f') :: l2).map kvOf = (l1 ++ (b, f) :: l2).map kvOf := by simp [kvOf, e]
    rw [e1]; exact hmap.fr hf (Ne.symm hbm)
  · intro x hx
    rcases List.mem_append.1 hx with hx' | hx'
    · exact (hblk x (by simp [hx'])).fr hf (hne x (by simp [hx']))
    · rcases List.mem_cons.1 hx' with rfl | hx'
      · exact hb
      · exact (hblk x (by simp [hx'])).fr hf (hne x (by simp [hx']))
  · simp only [List.map_append, List.map_cons]
    rw [h2, hsp.1, hsp.2]
  · simpa using hns
  · intro k; simp [foot]

/-- One more file. -/
theorem DiskRep.new {b : Nat} {f : PFile} (hn : ∀ g ∈ D.files, g.name ≠ f.name) {w' : World} (hb0 : ¬ foot d m fs b) (hf : Fr (fun k => k = m ∨ k = b ∨ k = d) w w') {r fu : Int} {o : Bool} (hh : Blk w' d #[.map (some m), .int .i64 r, .int .i64 fu, .bool o] 110) (hmp : MapAt w' m ((bs f.name, ptr b) :: fs.map kvOf))
    (hb : Blk w' b #[.string (bs f.sure), .string (bs f.loose)] 112) :
    ∃ fs', DiskRep w' d m fs' { D with files := putF D.files f, room := r, fuse := fu, off := o } ∧ ∀ k, foot d m fs' k ↔ foot d m fs k ∨ k = b := by
  obtain ⟨a, c, h1, h2⟩ := putF_new hn
  have hfiles := h.files
  rw [h1] at hfiles
  obtain ⟨l1, l2, h3, h4, h5⟩ := List.map_eq_append_iff.1 hfiles
  have hbd := fun x hx => h.bd (x := x) hx
  have hbm := fun x hx => h.bm (x := x) hx
  have hblk := h.blk
  have hns := h.nodup
  clear h
  subst h3
  have hbn : ∀ x ∈ l1 ++ l2, x.1 ≠ b := fun x hx e => hb0 (.inr (.inr (List.mem_map.2 ⟨x, hx, e⟩)))
  refine ⟨l1 ++ (b, f) :: l2, ⟨hh, ?_, ?_, ?_, ?_⟩, ?_⟩
  · obtain ⟨es, ck, m1, m2, m3⟩ := hmp
    refine ⟨es, ck, m1, m2, m3.trans ?_⟩
    refine List.Perm.map _ ?_
    simp only [List.map_append, List.map_cons]
    exact (List.perm_middle (a := kvOf (b, f))).symm
  · intro x hx
    have hx2 : x = (b, f) ∨ x ∈ l1 ++ l2 := by
      rcases List.mem_append.1 hx with h | h
      · exact .inr (by simp [h])
      · rcases List.mem_cons.1 h with h | h
        · exact .inl h
        · exact .inr (by simp [h])
    rcases hx2 with rfl | hx2
    · exact hb
    · refine (hblk x hx2).fr hf ?_
      rintro (e | e | e)
      · exact hbm x hx2 e
      · exact hbn x hx2 e
      · exact hbd x hx2 e
  · simp only [List.map_append, List.map_cons]
    rw [h2, h4, h5]
  · have hp : ((l1 ++ (b, f) :: l2).map (·.1)).Perm (b :: (l1 ++ l2).map (·.1)) := by
      simp only [List.map_append, List.map_cons]; exact List.perm_middle
    rw [hp.nodup_iff]
    refine List.nodup_cons.2 ⟨fun hx => ?_, hns⟩
    obtain ⟨x, hx, e⟩ := List.mem_map.1 hx
    exact hbn x hx e
  · intro k
    simp only [foot, List.map_append, List.map_cons, List.mem_append, List.mem_cons]
    constructor
    · rintro (h | h | h | h | h) <;> simp [h]
    · rintro ((h | h | h | h) | h) <;> simp [h]
end

/-- The empty disk. -/
theorem DiskRep.made {w : World} {d m : Nat} {n : Int} (hd : Blk w d #[.map (some m), .int .i64 n, .int .i64 (-1), .bool false] 110) (hm : MapAt w m []) : DiskRep w d m [] ⟨[], n, -1, false⟩ :=
  ⟨hd, hm, by simp, rfl, by simp⟩

end Go.Proofs.YtnibpknhpjcamaaGreatDoor
