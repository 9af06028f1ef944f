/-
  Package disk as plain functions: what stays true. No conditions.
-/
import Derived.Test.YtnibpknhpjcamaaGreatDoorDisk
namespace Go.Proofs.YtnibpknhpjcamaaGreatDoor

theorem sumBlk_append (a b : List PFile) : sumBlk (a ++ b) = sumBlk a + sumBlk b := by simp [sumBlk]
theorem sumBlk_cons (f : PFile) (b : List PFile) : sumBlk (f :: b) = blk f.size + sumBlk b := by simp [sumBlk]
theorem sumBlk_nonneg (a : List PFile) : 0 ≤ sumBlk a := by
  induction a with
  | nil => simp [sumBlk]
  | cons f a ih => rw [sumBlk_cons]; have := blk_pos f.size; omega

/-- In the order of names. -/
def Sorted (l : List PFile) : Prop := l.Pairwise fun f g => f.name < g.name

structure PDisk.WF (D : PDisk) (n : Int) : Prop where
  sorted : Sorted D.files
  ok : ∀ f ∈ D.files, okName f.name = true
  count : D.files.length ≤ 256
  room : 0 ≤ D.room
  sum : D.room + sumBlk D.files = n
  size : n ≤ 16384
  fuse : -1 ≤ D.fuse
  fuse' : D.fuse ≤ 9223372036854775807

theorem mem_blk {l : List PFile} {f : PFile} (h : f ∈ l) : blk f.size ≤ sumBlk l := by
  obtain ⟨a, b, rfl⟩ := List.append_of_mem h
  rw [sumBlk_append, sumBlk_cons]
  have := sumBlk_nonneg a
  have := sumBlk_nonneg b
  omega

theorem PDisk.WF.fsize {D : PDisk} {n : Int} (h : D.WF n) {f : PFile} (hf : f ∈ D.files) : f.size ≤ 1048576 := by
  have h1 := mem_blk hf
  have h2 := blk_le f.size (by omega)
  have := h.room
  have := h.sum
  have := h.size
  omega

theorem PDisk.WF.lens {D : PDisk} {n : Int} (h : D.WF n) {f : PFile} (hf : f ∈ D.files) : f.sure.length ≤ 1048576 ∧ f.loose.length ≤ 1048576 := by
  have := h.fsize hf
  unfold PFile.size at this
  omega

theorem lt_tri {a b : List UInt8} (h : ¬ a = b) (h2 : ¬ a < b) : b < a := by
  rcases List.le_total a b with h3 | h3
  · exact Classical.byContradiction fun h4 => h (List.le_antisymm (List.not_lt.1 h4) (List.not_lt.1 h2))
  · exact Classical.byContradiction fun h4 => h (List.le_antisymm (List.not_lt.1 h4) (List.not_lt.1 h2))

theorem Sorted.names {l : List PFile} (h : Sorted l) {f g : PFile} (hf : f ∈ l) (hg : g ∈ l) (e : f.name = g.name) : f = g := by
  induction l with
  | nil => cases hf
  | cons x l ih =>
    have hc := List.pairwise_cons.1 h
    rcases List.mem_cons.1 hf with rfl | hf' <;> rcases List.mem_cons.1 hg with rfl | hg'
    · rfl
    · exact absurd (e ▸ hc.1 _ hg') (List.lt_irrefl _)
    · exact absurd (e ▸ hc.1 _ hf') (List.lt_irrefl _)
    · exact ih hc.2 hf' hg'

theorem putF_mem {l : List PFile} (h : Sorted l) {f f' : PFile} (hf : f ∈ l) (e : f'.name = f.name) : ∃ a b, l = a ++ f :: b ∧ putF l f' = a ++ f' :: b := by
  induction l with
  | nil => cases hf
  | cons g l ih =>
    have hc := List.pairwise_cons.1 h
    rw [putF]
    rcases List.mem_cons.1 hf with rfl | hf'
    · rw [if_pos e.symm]; exact ⟨[], l, rfl, rfl⟩
    · have hlt := hc.1 _ hf'
      rw [if_neg (by rw [e]; intro e2; rw [e2] at hlt; exact List.lt_irrefl _ hlt), if_pos (by rw [e]; exact hlt)]
      obtain ⟨a, b, h1, h2⟩ := ih hc.2 hf'
      exact ⟨g :: a, b, by rw [h1]; rfl, by rw [h2]; rfl⟩

theorem putF_new {l : List PFile} {f : PFile} (hf : ∀ g ∈ l, g.name ≠ f.name) : ∃ a b, l = a ++ b ∧ putF l f = a ++ f :: b := by
  induction l with
  | nil => exact ⟨[], [], rfl, rfl⟩
  | cons g l ih =>
    rw [putF, if_neg (hf g (by simp))]
    split
    · obtain ⟨a, b, h1, h2⟩ := ih (fun x hx => hf x (by simp [hx]))
      exact ⟨g :: a, b, by rw [h1]; rfl, by rw [h2]; rfl⟩
    · exact ⟨[], g :: l, rfl, rfl⟩

theorem putF_sorted {l : List PFile} (h : Sorted l) (f : PFile) : Sorted (putF l f) := by
  induction l with
  | nil => simp [putF, Sorted]
  | cons g l ih =>
    have hc := List.pairwise_cons.1 h
    rw [putF]
    split
    · rename_i e; exact List.pairwise_cons.2 ⟨fun x hx => e ▸ hc.1 x hx, hc.2⟩
    · split
      · rename_i e1 e2
        refine List.pairwise_cons.2 ⟨fun x hx => ?_, ih hc.2⟩
        rcases putF_names l f x hx with rfl | hx
        · exact e2
        · exact hc.1 x hx
      · rename_i e1 e2
        have hlt := lt_tri e1 e2
        refine List.pairwise_cons.2 ⟨fun x hx => ?_, h⟩
        rcases List.mem_cons.1 hx with rfl | hx
        · exact hlt
        · exact List.lt_trans hlt (hc.1 x hx)

theorem PDisk.look_some {D : PDisk} {name : List UInt8} {f : PFile} (h : D.look name = some f) : f ∈ D.files ∧ f.name = name := by
  unfold PDisk.look at h
  exact ⟨List.mem_of_find?_eq_some h, by simpa using List.find?_some h⟩

theorem PDisk.look_none {D : PDisk} {name : List UInt8} (h : D.look name = none) : ∀ f ∈ D.files, f.name ≠ name := by
  unfold PDisk.look at h
  simpa using h

theorem PDisk.look_mem {D : PDisk} {f : PFile} (hs : Sorted D.files) (h : f ∈ D.files) : D.look f.name = some f := by
  cases hl : D.look f.name with
  | none => exact absurd rfl (PDisk.look_none hl f h)
  | some g =>
    obtain ⟨h1, h2⟩ := PDisk.look_some hl
    rw [hs.names h1 h h2]

/-- The files by another one in the place of one. -/
theorem PDisk.WF.put {D : PDisk} {n : Int} (h : D.WF n) {f f' : PFile} (hf : f ∈ D.files) (e : f'.name = f.name) {r : Int} (hr : r = D.room + blk f.size - blk f'.size) (h0 : 0 ≤ r) :
    PDisk.WF { D with files := putF D.files f', room := r } n := by
  obtain ⟨a, b, h1, h2⟩ := putF_mem h.sorted hf e
  refine ⟨putF_sorted h.sorted f', ?_, ?_, h0, ?_, h.size, h.fuse, h.fuse'⟩
  · intro g hg
    rcases putF_names _ _ g hg with rfl | hg
    · rw [e]; exact h.ok _ hf
    · exact h.ok _ hg
  · have := h.count
    rw [h1] at this
    show (putF D.files f').length ≤ 256
    rw [h2]
    simp only [List.length_append, List.length_cons] at this ⊢
    omega
  · have := h.sum
    simp only [h2]
    rw [h1] at this
    rw [sumBlk_append, sumBlk_cons] at this ⊢
    omega

theorem PDisk.WF.new {D : PDisk} {n : Int} (h : D.WF n) {f : PFile} (hf : ∀ g ∈ D.files, g.name ≠ f.name) (hok : okName f.name = true) (hc : D.files.length < 256) {r : Int} (hr : r = D.room - blk f.size) (h0 : 0 ≤ r) :
    PDisk.WF { D with files := putF D.files f, room := r } n := by
  obtain ⟨a, b, h1, h2⟩ := putF_new hf
  refine ⟨putF_sorted h.sorted f, ?_, ?_, h0, ?_, h.size, h.fuse, h.fuse'⟩
  · intro g hg
    rcases putF_names _ _ g hg with rfl | hg
    · exact hok
    · exact h.ok _ hg
  · rw [h1] at hc
    show (putF D.files f).length ≤ 256
    rw [h2]
    simp only [List.length_append, List.length_cons] at hc ⊢
    omega
  · have := h.sum
    simp only [h2]
    rw [h1] at this
    rw [sumBlk_append] at this ⊢
    rw [sumBlk_cons]
    omega

theorem PDisk.WF.burn {D : PDisk} {n : Int} (h : D.WF n) : D.burn.1.WF n := by
  unfold PDisk.burn
  have := h.fuse
  have := h.fuse'
  split
  · exact ⟨h.sorted, h.ok, h.count, h.room, h.sum, h.size, h.fuse, h.fuse'⟩
  · split
    · exact ⟨h.sorted, h.ok, h.count, h.room, h.sum, h.size, by simp only; omega, by simp only; omega⟩
    · exact h

theorem PDisk.burn_files (D : PDisk) : D.burn.1.files = D.files ∧ D.burn.1.room = D.room := by
  unfold PDisk.burn
  split
  · exact ⟨rfl, rfl⟩
  · split <;> exact ⟨rfl, rfl⟩

theorem PDisk.ready_zero {D : PDisk} {name : List UInt8} (h : D.ready name = 0) : okName name = true ∧ D.off = false := by
  unfold PDisk.ready at h
  cases h1 : okName name <;> cases h2 : D.off <;> simp_all

theorem PDisk.WF.append {D : PDisk} {n : Int} (h : D.WF n) (name s : List UInt8) : (D.append name s).1.WF n := by
  unfold PDisk.append
  split
  · exact h
  rename_i hr
  have hr := PDisk.ready_zero (Classical.not_not.1 hr)
  dsimp only
  cases hl : D.look name with
  | none =>
    simp only
    split
    · exact h
    · rename_i hn
      refine PDisk.WF.burn (h.new (f := { name := name, sure := [], loose := [] ++ s }) (PDisk.look_none hl) hr.1 ?_ ?_ ?_)
      · simp only [true_and, not_or] at hn; omega
      · simp [PFile.size]
      · simp only [true_and, not_or] at hn; omega
  | some f =>
    obtain ⟨hf, hnm⟩ := PDisk.look_some hl
    simp only
    split
    · exact h
    · rename_i hn
      refine PDisk.WF.burn (h.put (f' := { f with loose := f.loose ++ s }) hf rfl ?_ ?_)
      · have : PFile.size { f with loose := f.loose ++ s } = f.size + s.length := by simp [PFile.size]; omega
        rw [this]; simp only [Int.natCast_add]; omega
      · have : ¬ D.room < blk (↑f.size + ↑s.length) - blk ↑f.size := fun hx => hn (.inl hx)
        omega

theorem PDisk.WF.work {D : PDisk} {n : Int} (h : D.WF n) (name : List UInt8) (act : PDisk → PFile → PDisk) (hact : ∀ D' f, PDisk.WF D' n → f ∈ D'.files → f.name = name → (act D' f).WF n) : (D.work name act).1.WF n := by
  unfold PDisk.work
  split
  · exact h
  · split
    · exact h
    · rename_i f hf
      obtain ⟨hf, hnm⟩ := PDisk.look_some hf
      split
      · exact hact _ _ h.burn (by rw [(PDisk.burn_files D).1]; exact hf) hnm
      · exact h.burn

theorem PDisk.WF.sync {D : PDisk} {n : Int} (h : D.WF n) (name : List UInt8) : (D.sync name).1.WF n := by
  refine h.work _ _ fun D' f hD hf _ => ?_
  refine hD.put (f' := { f with sure := f.sure ++ f.loose, loose := [] }) hf rfl ?_ hD.room
  simp [PFile.size]

/-- A file's first bytes. -/
def PFile.cut (f : PFile) (n : Nat) : PFile := { f with sure := f.sure.take (min n f.sure.length), loose := f.loose.take (n - min n f.sure.length) }

theorem PFile.cut_size (f : PFile) (n : Nat) (h : n ≤ f.size) : (f.cut n).size = n := by
  unfold PFile.cut PFile.size at *
  simp only [List.length_take]
  omega

theorem PDisk.WF.truncate {D : PDisk} {n : Int} (h : D.WF n) (name : List UInt8) (k : Int) : (D.truncate name k).1.WF n := by
  unfold PDisk.truncate
  split
  · exact h
  split
  · exact h
  · rename_i hr hc
    unfold PDisk.work
    rw [if_neg hr]
    split
    · exact h
    · rename_i f hf
      obtain ⟨hfm, hnm⟩ := PDisk.look_some hf
      split
      · have hk : ¬ (k < 0 ∨ (f.size : Int) < k) := fun hx => hc ⟨f, hf, hx⟩
        have hk1 : k.toNat ≤ f.size := by omega
        have hb := h.burn
        have hfb : f ∈ D.burn.1.files := by rw [(PDisk.burn_files D).1]; exact hfm
        refine hb.put (f' := f.cut k.toNat) hfb rfl ?_ ?_
        · rw [PFile.cut_size f _ hk1]
          have : ((k.toNat : Nat) : Int) = k := by omega
          rw [this]; omega
        · have := hb.room
          have := blk_mono (a := k) (b := f.size) (by omega)
          omega
      · exact h.burn

theorem crashF_len (keep : List Int) (l : List PFile) : ∀ i, (crashF keep i l).length = l.length := by
  induction l with
  | nil => intro i; rfl
  | cons f l ih => intro i; simp [crashF, ih]

theorem crashF_names (keep : List Int) (l : List PFile) : ∀ i, (crashF keep i l).map (·.name) = l.map (·.name) := by
  induction l with
  | nil => intro i; rfl
  | cons f l ih => intro i; simp [crashF, ih]

theorem crashF_le (keep : List Int) (l : List PFile) : ∀ i, sumBlk (crashF keep i l) ≤ sumBlk l := by
  induction l with
  | nil => intro i; simp [crashF]
  | cons f l ih =>
    intro i
    rw [crashF, sumBlk_cons, sumBlk_cons]
    have := ih (i + 1)
    refine Int.add_le_add (blk_mono ?_) this
    simp only [PFile.size, List.length_append, List.length_take, List.length_nil]
    omega

theorem sorted_names (l : List PFile) : Sorted l ↔ (l.map (·.name)).Pairwise (· < ·) := by
  unfold Sorted; rw [List.pairwise_map]

theorem PDisk.WF.crash {D : PDisk} {n : Int} (h : D.WF n) (keep : List Int) : (D.crash keep).WF n := by
  have hl := crashF_le keep D.files 0
  have := h.room
  have := h.sum
  refine ⟨?_, ?_, by simp only [PDisk.crash, crashF_len]; exact h.count, by simp only [PDisk.crash]; omega, by simp only [PDisk.crash]; omega, h.size, by simp [PDisk.crash], by simp [PDisk.crash]⟩
  · simp only [PDisk.crash]; rw [sorted_names, crashF_names, ← sorted_names]; exact h.sorted
  · intro f hf
    simp only [PDisk.crash] at hf
    have : f.name ∈ (crashF keep 0 D.files).map (·.name) := List.mem_map.2 ⟨f, hf, rfl⟩
    rw [crashF_names] at this
    obtain ⟨g, hg, e⟩ := List.mem_map.1 this
    rw [← e]; exact h.ok g hg

end Go.Proofs.YtnibpknhpjcamaaGreatDoor
