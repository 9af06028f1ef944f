/-
  A range over a map with texts as keys, while other blocks are written and made: the pairs that are still to come. No conditions.
  disk: Copy: the walk. Conditions: a disk that is well formed.
  A log that is opened once more, and once more: the same segments, the same disk. No conditions.
-/
import Derived.Test.YtgjkjkeeblbjlaaGreatDoorGCM
import Derived.Maps.RangeWalk
import Derived.Test.YtgjkjkeeblbjlaaGreatDoorGFM
import Derived.BigRegion
import Derived.Test.YtgjkjkeeblbjlaaGreatDoorGMM
import Derived.Test.YtgjkjkeeblbjlaaGreatDoorGEM
set_option maxRecDepth 100000
namespace Go.Proofs.YtgjkjkeeblbjlaaGreatDoor
open Go.RowKit Go.MapKept Go.ChangeMaps

theorem MapAt.perm {w : World} {m : Nat} {kvs kvs' : List (ByteArray × Value)} (h : MapAt w m kvs) (hp : kvs.Perm kvs') : MapAt w m kvs' := by
  obtain ⟨es, c, h1, h2, h3⟩ := h
  exact ⟨es, c, h1, h2, h3.trans (hp.map _)⟩

/-- A new key, laid in any world in which the map stands as it does here. -/
def MapAt.Put (P : Program) (w : World) (T : TypeId) (m : Nat) (kvs : List (ByteArray × Value)) (k : ByteArray) (v : Value) (W : World) : Prop :=
  W.heap[m]? = w.heap[m]? → ∃ o, (Instr.mapUpdate T (.map (some m)) (.string k) v).run P W = .ok () (W.putObj m o) ∧ MapAt (W.putObj m o) m ((k, v) :: kvs)

theorem MapAt.put_any {P : Program} {w W : World} {T K E : TypeId} {m : Nat} {kvs : List (ByteArray × Value)} (h : MapAt w m kvs) (hT : P.underlying T = some (.map K E)) (hK : P.underlying K = some .string) {k : ByteArray} (v : Value) (hm : ∀ p ∈ kvs, p.1 ≠ k) :
    MapAt.Put P w T m kvs k v W := by
  intro hW
  have h2 : MapAt W m kvs := by
    obtain ⟨es, c, h1, h3⟩ := h
    exact ⟨es, c, hW.trans h1, h3⟩
  exact h2.put_new hT hK v hm

/-- Block r is an iterator over map m: these pairs are still to come. -/
def Rng (w : World) (m r : Nat) (todo : List (ByteArray × Value)) : Prop :=
  ∃ es clock since seen c0, w.heap[m]? = some (.map es clock) ∧ Stamped es clock ∧ w.heap[r]? = some (.mapIter (some m) since seen c0) ∧ (∀ x ∈ es.toList, x.born < since) ∧ since ≤ c0 ∧ since ≤ clock ∧
    ((leftOf es seen).toList.map fun e => (e.key, e.val)).Perm (todo.map fun p => (Value.string p.1, p.2))

theorem Rng.fr {S : Nat → Prop} {w w' : World} {m r : Nat} {todo : List (ByteArray × Value)} (h : Rng w m r todo) (hf : Fr S w w') (hm : ¬ S m) (hr : ¬ S r) : Rng w' m r todo := by
  obtain ⟨es, clock, since, seen, c0, h1, h2, h3, rest⟩ := h
  exact ⟨es, clock, since, seen, c0, (hf.block m (Array.getElem?_eq_some_iff.1 h1).1 hm).trans h1, h2, (hf.block r (Array.getElem?_eq_some_iff.1 h3).1 hr).trans h3, rest⟩

theorem Rng.lt {w : World} {m r : Nat} {todo : List (ByteArray × Value)} (h : Rng w m r todo) : r < w.heap.size := by
  obtain ⟨es, clock, since, seen, c0, h1, h2, h3, rest⟩ := h
  exact (Array.getElem?_eq_some_iff.1 h3).1

theorem Rng.left {w : World} {m r : Nat} {todo : List (ByteArray × Value)} (h : Rng w m r todo) : w.rangeLeft m r = todo.length := by
  obtain ⟨es, clock, since, seen, c0, h1, h2, h3, _, _, _, hp⟩ := h
  simp only [World.rangeLeft, h1, h3]
  have := hp.length_eq
  simpa using this

theorem Rng.start {w : World} {m : Nat} {kvs : List (ByteArray × Value)} (h : MapAt w m kvs) {P : Program} {t k e : TypeId} (ht : P.underlying t = some (.map k e)) :
    ∃ w', (Instr.range t (.map (some m))).run P w = .ok (.pointer (some ⟨w.heap.size, 0, none⟩)) w' ∧ Rng w' m w.heap.size kvs ∧ Below w.heap.size w w' ∧ w'.heap.size = w.heap.size + 1 := by
  have hlt := h.lt
  obtain ⟨es, clock, hb, hs, hp⟩ := h
  refine ⟨_, run_range_map w t k e m es clock ht hb, ⟨es, clock, clock, #[], clock, ((MapKept.heap_alloc w _).2 m hlt).trans hb, hs, (MapKept.heap_alloc w _).1, hs.1, Nat.le_refl _, Nat.le_refl _, ?_⟩, (Below.refl _ _).alloc (Nat.le_refl _) _, by simp⟩
  have e : (leftOf es #[]) = es := by unfold leftOf; simp
  rw [e]; exact hp

theorem filter_born : ∀ (l : List MapEntry) (e : MapEntry), e ∈ l → (l.map (·.born)).Nodup → l.Perm (e :: l.filter fun x => x.born != e.born)
  | [], _, h, _ => by simp at h
  | a :: l, e, h, hn => by
    simp only [List.map_cons, List.nodup_cons] at hn
    by_cases hae : a.born = e.born
    · have : a = e := by
        rcases List.mem_cons.1 h with rfl | h
        · rfl
        · exact absurd (hae ▸ List.mem_map.2 ⟨e, h, rfl⟩) hn.1
      subst this
      have hf : l.filter (fun x => x.born != a.born) = l := List.filter_eq_self.2 (fun x hx => by
        have : x.born ≠ a.born := fun h2 => hn.1 (h2 ▸ List.mem_map.2 ⟨x, hx, rfl⟩)
        simpa using this)
      simp [hf]
    · have hm : e ∈ l := by
        rcases List.mem_cons.1 h with rfl | h
        · exact absurd rfl hae
        · exact h
      have ih := filter_born l e hm hn.2
      have : (a.born != e.born) = true := by simpa using hae
      rw [List.filter_cons, if_pos this]
      exact (ih.cons a).trans (List.Perm.swap _ _ _)

theorem Rng.next {w : World} {m r : Nat} {todo : List (ByteArray × Value)} (h : Rng w m r todo) (P : Program) (ty : TypeId) :
    (todo = [] ∧ (Instr.next (.pointer (some ⟨r, 0, none⟩)) false ty).run P w = .ok (.tuple #[.bool false]) w) ∨
    ∃ (p : ByteArray × Value) (rest : List (ByteArray × Value)) (w' : World), todo.Perm (p :: rest) ∧ (Instr.next (.pointer (some ⟨r, 0, none⟩)) false ty).run P w = .ok (.tuple #[.bool true, .string p.1, p.2]) w' ∧
      Rng w' m r rest ∧ Fr (fun k => k = r) w w' ∧ w'.heap.size = w.heap.size ∧ (Instr.entry (.pointer (some ⟨r, 0, none⟩))).run P w' = .ok (.tuple #[.string p.1, p.2]) w' := by
  obtain ⟨es, clock, since, seen, c0, hb, hs, hr, hold, hsc, hsk, hp⟩ := h
  have hne : m ≠ r := by
    rintro rfl
    rw [hb] at hr
    cases hr
  rcases run_next_at (P := P) w ty r m since c0 seen es clock hr hb hold hsc with ⟨h0, hrun⟩ | ⟨e, he, w1, hal, hrun⟩
  · left
    have : (leftOf es seen) = #[] := Array.eq_empty_of_size_eq_zero h0
    rw [this] at hp
    have h1 := hp.length_eq
    simp at h1
    exact ⟨List.eq_nil_of_length_eq_zero (by omega), hrun⟩
  · right
    obtain ⟨hem, hes⟩ := mem_left he
    have hb1 : w1.heap[m]? = some (.map es clock) := by rcases hal with rfl | rfl <;> exact hb
    have hr1 : w1.heap[r]? = some (.mapIter (some m) since seen c0) := by rcases hal with rfl | rfl <;> exact hr
    have hset := heap_set (o' := .mapIter (some m) since (seen.push e.born) clock) hr1
    have hb' : (setBlock w1 r (.mapIter (some m) since (seen.push e.born) clock)).heap[m]? = some (.map es clock) := (hset.2 m hne).trans hb1
    have hst := (stamped_iff es clock).1 hs
    -- the pairs that are left
    have hnl : ((leftOf es seen).toList.map (·.born)).Nodup := by
      unfold leftOf
      rw [Array.toList_filter]
      exact hst.2.1.sublist (List.filter_sublist.map _)
    have hl1 : (leftOf es (seen.push e.born)).toList = (leftOf es seen).toList.filter fun x => x.born != e.born := by
      unfold leftOf
      rw [Array.toList_filter, Array.toList_filter, List.filter_filter]
      congr 1
      funext x
      rw [contains_push]
      cases seen.contains x.born <;> cases hx : (x.born == e.born) <;> simp [bne, hx]
    have hl2 := filter_born _ e he hnl
    rw [← hl1] at hl2
    have hmem : (e.key, e.val) ∈ todo.map fun p => (Value.string p.1, p.2) := hp.mem_iff.1 (List.mem_map.2 ⟨e, he, rfl⟩)
    obtain ⟨p, hpm, hpe⟩ := List.mem_map.1 hmem
    simp only [Prod.mk.injEq] at hpe
    obtain ⟨hk, hv⟩ := hpe
    obtain ⟨l1, l2, hl⟩ := List.append_of_mem hpm
    subst hl
    have hperm : (l1 ++ p :: l2).Perm (p :: (l1 ++ l2)) := List.perm_middle
    refine ⟨p, l1 ++ l2, _, hperm, by rw [hk, hv]; exact hrun, ⟨es, clock, since, seen.push e.born, clock, hb', hs, hset.1, hold, hsk, hsk, ?_⟩, ?_, ?_, ?_⟩
    · have h3 := (hl2.map fun e => (e.key, e.val)).symm.trans (hp.trans (hperm.map fun p => (Value.string p.1, p.2)))
      simp only [List.map_cons, hk, hv] at h3
      exact h3.cons_inv
    · rcases hal with rfl | rfl <;> exact ⟨rfl, rfl, rfl, by simp [setBlock], fun i _ hi => hset.2 i hi⟩
    · rcases hal with rfl | rfl <;> simp [setBlock]
    · rw [hk, hv]
      exact run_entry_at _ r m since seen es clock e hset.1 hb' hem hst.2.1

section
variable {P : Program} (w : World) {ops : Array Oper} {rest : List Oper} {o : Oper} {a : Act} {Q : Exit → Act → World → Prop}

theorem wpList_range_map (hg : o.guard = none) (mo : Operand) (t : TypeId) (hop : o.op = Op.range t mo) (k e : TypeId) (ht : P.underlying t = some (.map k e)) (m : Nat) (kvs : List (ByteArray × Value))
    (hm : a.eval mo = .map (some m)) (h : MapAt w m kvs)
    (hK : ∀ w', Rng w' m w.heap.size kvs → Below w.heap.size w w' → w'.heap.size = w.heap.size + 1 → wpList P ops Q rest (a.put o.dst (.pointer (some ⟨w.heap.size, 0, none⟩))) w') :
    wpList P ops Q (o :: rest) a w := by
  refine wpList_plain hg fun K' hK' => ?_
  obtain ⟨w', hrun, r1, r2, r3⟩ := Rng.start h ht
  unfold Oper.wp
  simp [execOp, hop, hm, hrun, Result.andThen]
  exact hK' _ _ (hK w' r1 r2 r3)

theorem wpList_next_map (hg : o.guard = none) (it : Operand) (hop : o.op = Op.next it false) (m r : Nat) (todo : List (ByteArray × Value)) (hit : a.eval it = .pointer (some ⟨r, 0, none⟩)) (h : Rng w m r todo)
    (hDone : todo = [] → wpList P ops Q rest (a.put o.dst (.tuple #[.bool false])) w)
    (hMore : ∀ (p : ByteArray × Value) (rs : List (ByteArray × Value)) (w' : World), todo.Perm (p :: rs) → Rng w' m r rs → Fr (fun k => k = r) w w' → w'.heap.size = w.heap.size →
      (Instr.entry (.pointer (some ⟨r, 0, none⟩))).run P w' = .ok (.tuple #[.string p.1, p.2]) w' → wpList P ops Q rest (a.put o.dst (.tuple #[.bool true, .string p.1, p.2])) w') :
    wpList P ops Q (o :: rest) a w := by
  refine wpList_plain hg fun K' hK' => ?_
  unfold Oper.wp
  rcases h.next P o.type with ⟨h0, hrun⟩ | ⟨p, rs, w', hp, hrun, hrg, hfr, hsz, hen⟩
  · simp [execOp, hop, hit, hrun, Result.andThen]
    exact hK' _ _ (hDone h0)
  · simp [execOp, hop, hit, hrun, Result.andThen]
    exact hK' _ _ (hMore p rs w' hp hrg hfr hsz hen)
end

theorem perm_map_inv {α β : Type} (f : α → β) : ∀ (l : List α) (m : List β), (l.map f).Perm m → ∃ l' : List α, l'.Perm l ∧ l'.map f = m
  | l, [], h => by
    have := h.length_eq
    simp at this
    subst this
    exact ⟨[], List.Perm.refl _, rfl⟩
  | l, y :: m, h => by
    have : y ∈ l.map f := h.mem_iff.2 (List.mem_cons_self ..)
    obtain ⟨x, hx, rfl⟩ := List.mem_map.1 this
    obtain ⟨l1, l2, rfl⟩ := List.append_of_mem hx
    have h2 : ((l1 ++ l2).map f).Perm m := by
      have h3 : (f x :: (l1 ++ l2).map f).Perm (f x :: m) := by
        refine List.Perm.trans ?_ h
        simp only [List.map_append, List.map_cons]
        exact List.perm_middle.symm
      exact h3.cons_inv
    obtain ⟨l', p1, p2⟩ := perm_map_inv f (l1 ++ l2) m h2
    exact ⟨x :: l', (p1.cons x).trans List.perm_middle.symm, by simp [p2]⟩

end Go.Proofs.YtgjkjkeeblbjlaaGreatDoor

namespace Go.Proofs.YtgjkjkeeblbjlaaGreatDoor
open Go.RowKit

/-- The copy under way: what is still to come, and what has been copied. -/
structure CopyRel (w : World) (m : Nat) (fs : List (Nat × PFile)) (D : PDisk) (todo kvs : List (Nat × PFile)) (wr : World) : Prop where
  rng : Rng wr m (w.heap.size + 2) (todo.map kvOf)
  mem : ∀ x ∈ todo, x ∈ fs
  all : (kvs.map (·.2) ++ todo.map (·.2)).Perm D.files
  map : MapAt wr (w.heap.size + 1) (kvs.map kvOf)
  blk : ∀ x ∈ kvs, Blk wr x.1 #[.string (bs x.2.sure), .string (bs x.2.loose)] 119 ∧ w.heap.size + 3 ≤ x.1
  nodup : (kvs.map (·.1)).Nodup
  hdr : Blk wr w.heap.size #[.map (some (w.heap.size + 1)), .int .i64 D.room, .int .i64 D.fuse, .bool D.off] 96
  bel : Below w.heap.size w wr
  size : w.heap.size + 3 ≤ wr.heap.size

theorem CopyRel.done {w wr : World} {m : Nat} {fs kvs : List (Nat × PFile)} {D : PDisk} (h : CopyRel w m fs D [] kvs wr) : ∃ S', DiskAt wr w.heap.size S' D ∧ (∀ k, S' k → w.heap.size ≤ k) := by
  have h1 := h.all
  simp only [List.map_nil, List.append_nil] at h1
  obtain ⟨kvs', p1, p2⟩ := perm_map_inv (·.2) kvs D.files h1
  refine ⟨_, ⟨w.heap.size + 1, kvs', ⟨h.hdr, h.map.perm (p1.symm.map kvOf), fun x hx => (h.blk x (p1.mem_iff.1 hx)).1, p2, ((p1.map (·.1)).nodup_iff).2 h.nodup⟩, fun k => Iff.rfl⟩, fun k hk => ?_⟩
  rcases hk with rfl | rfl | hk
  · exact Nat.le_refl _
  · omega
  · obtain ⟨x, hx, rfl⟩ := List.mem_map.1 hk
    have := (h.blk x (p1.mem_iff.1 hx)).2
    omega

theorem CopyRel.new {w wr : World} {m : Nat} {fs kvs todo : List (Nat × PFile)} {D : PDisk} (h : CopyRel w m fs D todo kvs wr) (hs : Sorted D.files) {x : Nat × PFile} (hx : x ∈ todo) : ∀ p ∈ kvs.map kvOf, p.1 ≠ bs x.2.name := by
  intro p hp
  obtain ⟨y, hy, rfl⟩ := List.mem_map.1 hp
  have hn : D.files.Pairwise (fun a b => a.name ≠ b.name) := hs.imp (fun {a b} h e => by
    have h2 := h
    rw [e] at h2
    exact absurd h2 (List.lt_irrefl _))
  have h2 := (h.all.pairwise_iff (fun {a b} (hab : a.name ≠ b.name) => Ne.symm hab)).2 hn
  have h3 := (List.pairwise_append.1 h2).2.2 y.2 (List.mem_map.2 ⟨y, hy, rfl⟩) x.2 (List.mem_map.2 ⟨x, hx, rfl⟩)
  exact bs_ne h3

set_option maxHeartbeats 4000000 in
theorem copy_any {d : Nat} {S : Nat → Prop} {D : PDisk} {w : World} (h : DiskAt w d S D) (hs : Sorted D.files) :
    Calls Tryz.prog 30 #[ptr d] w fun e w' => e = .returned (ptr w.heap.size) ∧ (∃ S', DiskAt w' w.heap.size S' D ∧ ∀ k, S' k → w.heap.size ≤ k) ∧ Below w.heap.size w w' := by
  obtain ⟨m, fs, hr, _⟩ := h
  have hmm := @run_makeMap Tryz.prog
  obtain ⟨c0, c1, c2, c3, f0, f1, f2, f3⟩ := hr.cells
  have hdlt := hr.dlt
  have HR := hid hr
  have HW := hid hs
  clear hr hs
  have HM : ∀ o1 o2, MapAt ((w.alloc o1).alloc o2) m (fs.map kvOf) := fun o1 o2 => HR.out.map.fr (((Fr.refl (fun _ => False) w).alloc o1).alloc o2) (fun h => h)
  unfold ptr
  go_enter Tryz.func30, Tryz.ntmps30
  go_wp2_with (first
    | (at_range; refine wpList_range_map _ rfl _ 94 rfl _ _ Tryz.underlying94 m (fs.map kvOf) rfl (HM _ _) ?_; intro w0 hrg0 hb0 hs0)
    | go_in)
  go_frame
  have e1 : ((w.alloc (.cells #[.map (some (w.heap.size + 1)), .int .i64 D.room, .int .i64 D.fuse, .bool D.off] 96)).alloc (.map #[] 0)).heap.size = w.heap.size + 2 := by simp
  have hbd0 := Blk.new w #[.map (some (w.heap.size + 1)), .int .i64 D.room, .int .i64 D.fuse, .bool D.off] 96
  have hmp0 := MapAt.made (w.alloc (.cells #[.map (some (w.heap.size + 1)), .int .i64 D.room, .int .i64 D.fuse, .bool D.off] 96))
  have hbl0 : Below w.heap.size w ((w.alloc (.cells #[.map (some (w.heap.size + 1)), .int .i64 D.room, .int .i64 D.fuse, .bool D.off] 96)).alloc (.map #[] 0)) := bel_alloc (bel_alloc (Below.refl _ _) _) _
  have hbd1 := hbd0.alloc (.map #[] 0)
  have e2 : (w.alloc (.cells #[.map (some (w.heap.size + 1)), .int .i64 D.room, .int .i64 D.fuse, .bool D.off] 96)).heap.size = w.heap.size + 1 := by simp
  rw [e2] at hmp0
  rw [e1] at hrg0 hs0 ⊢
  have HREL0 : Hid (CopyRel w m fs D fs [] w0) := hid ⟨hrg0, fun _ h => h, by simp [HR.out.files], hmp0.fr (Fr.of_below (S := fun _ => False) hb0) (fun h => h), fun x hx => by simp at hx, by simp, hbd1.below' hb0, by
    have := hbl0.trans (hb0.mono (by simp; omega))
    exact this, by omega⟩
  have HB0 := hid hb0
  clear hbd0 hmp0 hbd1 hrg0 hb0 hs0 hbl0 e1 e2 c0 c1 c2 c3 f0 f1 f2 f3
  go_loopw [4] (fun _ wr => ∃ todo kvs, CopyRel w m fs D todo kvs wr) (fun _ wr => wr.rangeLeft m (w.heap.size + 2))
  case atStart => exact ⟨_, _, HREL0.out⟩
  case round =>
    obtain ⟨todo, kvs, hrl⟩ := hrel
    have HREL := hid hrl
    clear hrl
    go_wp2_with (first
      | (at_next; refine wpList_next_map _ rfl _ rfl m (w.heap.size + 2) (todo.map kvOf) rfl HREL.out.rng ?_ ?_)
      | go_in)
    · intro hz
      obtain rfl : todo = [] := hz
      go_wp2_with fail
      go_ret
      exact ⟨rfl, HREL.out.done, HREL.out.bel⟩
    · intro p v rs w1 hperm hrg1 hfr1 hsz1 hen
      obtain ⟨l', p1, p2⟩ := perm_map_inv kvOf todo ((p, v) :: rs) hperm
      obtain ⟨x, todo', rfl⟩ : ∃ x t, l' = x :: t := by
        cases l' with
        | nil => simp at p2
        | cons x t => exact ⟨x, t, rfl⟩
      simp only [List.map_cons, List.cons.injEq] at p2
      obtain ⟨p2, rfl⟩ := p2
      have hxm : x ∈ todo := p1.mem_iff.1 (List.mem_cons_self ..)
      have hxf := HREL.out.mem x hxm
      obtain ⟨b, f⟩ := x
      unfold kvOf at p2
      injection p2 with hp2 hv2
      subst hp2 hv2
      have hsz0 := HREL.out.size
      have hnr : ∀ k, k ≠ w.heap.size + 2 → ¬ (k = w.heap.size + 2) := fun k h => h
      have hmp1 := HREL.out.map.fr hfr1 (by omega)
      have hbd1 := HREL.out.hdr.fr hfr1 (by omega)
      have hbel1 : Below w.heap.size w w1 := HREL.out.bel.trans (hfr1.to_below (by omega) (fun k hk h => by omega))
      have hbk := (HR.out.blk _ hxf).below' hbel1
      have hblt := (HR.out.blk _ hxf).lt
      have hkv1 : ∀ y ∈ kvs, Blk w1 y.1 #[.string (bs y.2.sure), .string (bs y.2.loose)] 119 ∧ w.heap.size + 3 ≤ y.1 := fun y hy => by
        have h1 := HREL.out.blk y hy
        exact ⟨h1.1.fr hfr1 (by omega), h1.2⟩
      have hnew := HREL.out.new HW.out hxm
      have g0 := hbd1.cell (i := 0) (v := .map (some (w.heap.size + 1))) rfl
      have b0 := hbk.cell (i := 0) (v := .string (bs f.sure)) rfl
      have b1 := hbk.cell (i := 1) (v := .string (bs f.loose)) rfl
      have HALL := hid (And.intro hmp1 (And.intro hbd1 (And.intro hbel1 (And.intro hkv1 (And.intro hnew (And.intro hrg1 p1))))))
      have HSZ := hid (And.intro hsz0 hsz1)
      clear hmp1 hbd1 hbel1 hkv1 hnew hrg1 p1 hperm hfr1 hbk hnr hsz0 hsz1
      unfold ptr at hen ⊢
      go_wp2_with fail
      go_upto_region 8 with fail
      have hlt1 := HALL.out.2.1.lt
      have hlt2 := HALL.out.1.lt
      have hlt3 : b < w1.heap.size := by omega
      have hal := (MapKept.heap_alloc w1 (.cells #[.string (bs f.sure), .string (bs f.loose)] 119)).2
      obtain ⟨o, hmu, hmp⟩ := HALL.out.1.put_any Tryz.underlying94 Tryz.underlying9 (k := bs f.name) (.pointer (some ⟨w1.heap.size, 0, none⟩)) HALL.out.2.2.2.2.1 (W := (w1.alloc (.cells #[.string (bs f.sure), .string (bs f.loose)] 119)).drew) (hal _ hlt2)
      have g1 : (w1.alloc (.cells #[.string (bs f.sure), .string (bs f.loose)] 119)).drew.cell? ⟨w.heap.size, 0, none⟩ = some (.map (some (w.heap.size + 1))) := ((HALL.out.2.1.alloc _).drew).cell (i := 0) rfl
      have hb4 := ((HALL.out.2.2.1.alloc (by have := HSZ.out.1; have := HSZ.out.2; omega) (.cells #[.string (bs f.sure), .string (bs f.loose)] 119)).drew)
      have hbk4 := (HR.out.blk _ hxf).below' hb4
      have j0 := hbk4.cell (i := 0) (v := .string (bs f.sure)) rfl
      have j1 := hbk4.cell (i := 1) (v := .string (bs f.loose)) rfl
      have HMP := hid hmp
      clear hmp
      go_region
      have hfr0 : Fr (fun k => k = w.heap.size + 1) w1 (((w1.alloc (.cells #[.string (bs f.sure), .string (bs f.loose)] 119)).drew).putObj (w.heap.size + 1) o) := by
        have h1 : Fr (fun k => k = w.heap.size + 1) w1 ((w1.alloc (.cells #[.string (bs f.sure), .string (bs f.loose)] 119)).drew) := ((Fr.refl (fun k => k = w.heap.size + 1) w1).alloc _).drew
        exact h1.trans (fr_putObj _ _ _ rfl)
      have hnb := (Blk.new w1 #[.string (bs f.sure), .string (bs f.loose)] 119).drew.fr (S := fun k => k = w.heap.size + 1) (fr_putObj _ _ o rfl) (show ¬ (w1.heap.size = w.heap.size + 1) by
        have h1 := HSZ.out.1
        have h2 := HSZ.out.2
        omega)
      have hREL2 : CopyRel w m fs D todo' ((w1.heap.size, f) :: kvs) (((w1.alloc (.cells #[.string (bs f.sure), .string (bs f.loose)] 119)).drew).putObj (w.heap.size + 1) o) := by
        have h1 := HSZ.out.1
        have h2 := HSZ.out.2
        have hmlt : m < w.heap.size := HR.out.mlt
        obtain ⟨q1, q2, q3, q4, q5, q6, q7⟩ := HALL.out
        refine ⟨q6.fr hfr0 (by omega) (by omega), fun y hy => HREL.out.mem y (q7.mem_iff.1 (List.mem_cons_of_mem _ hy)), ?_, HMP.out, fun y hy => ?_, ?_, q2.fr hfr0 (by omega), q3.trans (hfr0.to_below (by omega) (fun k hk h => by omega)), ?_⟩
        · have h3 := HREL.out.all
          have h4 := (q7.map (·.2)).symm
          simp only [List.map_cons] at h4 ⊢
          refine List.Perm.trans ?_ h3
          refine List.Perm.trans ?_ (List.Perm.append_left _ h4.symm)
          exact List.perm_middle.symm
        · rcases List.mem_cons.1 hy with rfl | hy
          · exact ⟨hnb, by show w.heap.size + 3 ≤ w1.heap.size; omega⟩
          · exact ⟨(q4 y hy).1.fr hfr0 (by have := (q4 y hy).2; omega), (q4 y hy).2⟩
        · simp only [List.map_cons, List.nodup_cons]
          refine ⟨fun hm => ?_, HREL.out.nodup⟩
          obtain ⟨y, hy, he⟩ := List.mem_map.1 hm
          have h3 := (q4 y hy).1.lt
          have h4 : y.1 = w1.heap.size := he
          omega
        · have := hfr0.size
          omega
      have HREL2 := hid hREL2
      clear hfr0 hnb hREL2
      go_wp2_with fail
      go_roundw
      case rel => exact ⟨_, _, HREL2.out⟩
      case measure =>
        rw [HREL2.out.rng.left, HREL.out.rng.left]
        have := HALL.out.2.2.2.2.2.2.length_eq
        simp at this ⊢
        omega
end Go.Proofs.YtgjkjkeeblbjlaaGreatDoor

namespace Go.Proofs.YtgjkjkeeblbjlaaGreatDoor
open Go.RowKit

/-- The log, all of it synced. -/
def ALog.whole (A : ALog) : ALog := ⟨A.name, A.segs, A.next, 0⟩

theorem putF_same {l : List PFile} (h : Sorted l) {f : PFile} (hf : f ∈ l) : putF l f = l := by
  obtain ⟨a, b, h1, h2⟩ := putF_mem h hf (f' := f) rfl
  rw [h2, h1]

/-- A log, all of it synced, is opened: nothing changes. -/
theorem Inv.still {A : ALog} {D : PDisk} {N : Int} (h : Inv A D) (hw : D.WF N) (he : A.e = 0) (hsn : A.sure = A.next) (ho : D.off = false) (hfu : D.fuse = -1) : D.openLog A.name = (A.toP, D, 0) := by
  have hall := openL_full A.name (lastOwn A.name D.files) D.files [] A.segs A.first D h.first h.chain (by rw [← A.next_eq]; exact h.top) (.inl rfl) h.files
  rw [logOf_nil, List.nil_append] at hall
  have hfirst : (ALog.mk A.name A.segs 0 0).first = A.first := rfl
  have hL : ({ logOf A.name A.segs with sure := (logOf A.name A.segs).next } : PLog) = A.toP := by
    unfold logOf ALog.toP
    dsimp only
    rw [PLog.mk.injEq]
    exact ⟨rfl, rfl, rfl, rfl, hsn.symm, he.symm⟩
  unfold PDisk.openLog
  rw [if_neg (by rw [h.name]; decide), if_neg (by rw [ho]; decide)]
  dsimp only
  rw [hall, if_neg (fun h9 => h9 rfl)]
  rcases List.eq_nil_or_concat A.segs with h0 | ⟨a, s, h0⟩
  · have hfl : filesOf A.name D = [] := by have := h.files; rw [h0] at this; simpa using this
    rw [lastOwn_none _ _ hfl, if_pos rfl, hL]
  · rw [List.concat_eq_append] at h0
    obtain ⟨fs, f, h1, h2, ⟨p, q, h3, h4, h5, h6⟩, h7, h8⟩ := h.last h0
    obtain ⟨F, G, hF, hFf, hGf, hown⟩ := filter_split h1
    have hlast := lastOwn_skip A.name F f G hown hGf
    rw [← hF] at hlast
    have hne : f.name ≠ [] := by rw [h2]; unfold segName; simp
    have hokn : okName f.name = true := by rw [h2]; exact segName_ok h.name _
    have hlook : D.look f.name = some f := look_own hw (by rw [h1]; simp) rfl
    have hq : f.loose = [] := by
      have hc : Chain s.base s.ents := h.chains (s := s) (by rw [h0]; simp)
      have hnx : A.next = endOf s.base s.ents := by rw [ALog.next_eq, h0, sEnd_snoc]; rfl
      have hq0 : q = [] := by
        rw [h3] at hc hnx
        rcases List.eq_nil_or_concat q with hq | ⟨q', y, hq⟩
        · exact hq
        · exfalso
          rw [hq, List.concat_eq_append, ← List.append_assoc] at hc hnx
          have h11 := (endOf_prefix (Chain.app.1 hc).1).1
          obtain ⟨c1, c2, c3, c4⟩ := Chain.app.1 hc
          have hy : 1 ≤ y.n := c3.2.2.1
          have hb : y.base = endOf s.base (p ++ q') := c2
          have he2 : endOf s.base (p ++ q' ++ [y]) = y.base + y.n := by unfold endOf; simp
          rw [he2] at hnx
          omega
      rw [h5, hq0]; rfl
    rw [hlast, if_neg hne]
    rcases D.sync_out hokn hlook with ⟨_, h9⟩ | ⟨D', _, _, _, h9⟩ | ⟨D', g1, g2, g3, g4, g5, g6, g7⟩
    · rw [ho] at h9; cases h9
    · omega
    · have hf' : ({ f with sure := f.sure ++ f.loose, loose := [] } : PFile) = f := by
        obtain ⟨fn, fsu, fl⟩ := f
        simp only at hq
        subst hq
        simp
      rw [hf', putF_same hw.sorted (by rw [hF]; simp)] at g2
      have hD : D' = D := by
        have h12 := g7 hfu
        obtain ⟨a1, a2, a3, a4⟩ := D'
        obtain ⟨b1, b2, b3, b4⟩ := D
        simp only at g2 g3 g4 h12 ho hfu
        subst g2 g3 g4 h12 ho hfu
        rfl
      rw [g1, hD, if_neg (fun h9 => h9 rfl), hL]

/-- A log that is opened once more. -/
theorem Inv.again {A : ALog} {D : PDisk} {N : Int} (h : Inv A D) (hw : D.WF N) (ho : D.off = false) (hfu : D.fuse = -1) :
    ∃ D3, D.openLog A.name = (A.whole.toP, D3, 0) ∧ Inv A.whole D3 ∧ D3.WF N ∧ D3.off = false ∧ D3.fuse = -1 ∧ D3.openLog A.name = (A.whole.toP, D3, 0) := by
  suffices hs : ∃ D3, D.openLog A.name = (A.whole.toP, D3, 0) ∧ Inv A.whole D3 ∧ D3.WF N ∧ D3.off = false ∧ D3.fuse = -1 by
    obtain ⟨D3, h1, h2, h3, h4, h5⟩ := hs
    exact ⟨D3, h1, h2, h3, h4, h5, h2.still h3 rfl rfl h4 h5⟩
  rcases List.eq_nil_or_concat A.segs with h0 | ⟨a, s, h0⟩
  · have hnx : A.next = 0 := by unfold ALog.next; rw [h0]; rfl
    have hi : Inv A.whole D := ⟨h.name, h.first, h.top, h.chain, h.full, h.files, h.sync, (fun s f hs => by
      have hs : A.segs.getLast? = some s := hs
      rw [h0] at hs; cases hs), fun _ => hnx⟩
    exact ⟨D, hi.still hw rfl rfl ho hfu, hi, hw, ho, hfu⟩
  · rw [List.concat_eq_append] at h0
    obtain ⟨p, q, n, fs, f, ht, _, hn⟩ := h.torn h0
    obtain ⟨q1, q2, A3, D3, g1, g2, g3, g4, g5, g6, g7, g8, g9, g10, g11, g12⟩ := ht.opened h.logOk hw ho hfu
    have hq2 := g2 hn
    rw [hq2, List.append_nil] at g1
    have hseg : A3.segs = A.segs := by
      rw [g6, h0, ← g1, ← ht.ents]
    have hA3 : A3 = A.whole := by
      obtain ⟨b1, b2, b3, b4⟩ := A3
      simp only at g3 g4 hseg
      subst g3 g4 hseg
      have g5 : b3 = (ALog.mk A.name A.segs b3 0).next := g5
      have g5' : b3 = A.next := g5
      subst g5'
      rfl
    subst hA3
    exact ⟨D3, g7, g8, g9, g10, g11⟩

/-- What an append answers does not depend on what has been synced. -/
theorem append_whole (A : ALog) (D : PDisk) (he : A.e = 0) (its : List PItem) : (A.whole.append D its).2 = (A.append D its).2 ∧ (A.whole.append D its).1.next = (A.append D its).1.next := by
  have hput : ∀ (B C : ALog), B.name = C.name → B.segs = C.segs → ∀ (D : PDisk) (s : ASeg) (l : List ASeg) (es : List Ent), (B.put D s l es).2 = (C.put D s l es).2 ∧ (B.put D s l es).1.next = (C.put D s l es).1.next := by
    intro B C hn hs D s l es
    unfold ALog.put
    rw [hn]
    dsimp only
    split
    · exact ⟨rfl, by unfold ALog.next; rw [hs]⟩
    · split
      · exact ⟨rfl, by unfold ALog.next; dsimp only; rw [hs]⟩
      · exact ⟨rfl, rfl⟩
  have hnx : A.whole.next = A.next := rfl
  have hz : ¬ ((0 : Int) ≠ 0) := fun h => h rfl
  unfold ALog.append
  rw [show A.whole.e = 0 from rfl, he, hnx]
  split
  · exact ⟨rfl, rfl⟩
  · split
    · exact ⟨rfl, rfl⟩
    · unfold ALog.appendE
      rw [show A.whole.act = A.act from rfl]
      split
      · exact hput A.whole A rfl rfl _ _ _ _
      · rw [show A.whole.segs = A.segs from rfl]
        split
        · exact hput A.whole A rfl rfl _ _ _ _
        · have hs : (A.whole.sync D).2 = (A.sync D).2 ∧ (A.whole.sync D).1.name = (A.sync D).1.name ∧ (A.whole.sync D).1.segs = (A.sync D).1.segs := by
            unfold ALog.sync
            rw [show A.whole.segs = A.segs from rfl]
            split
            · exact ⟨by rw [show A.whole.e = 0 from rfl, he], rfl, rfl⟩
            · rw [show A.whole.e = 0 from rfl, he, if_neg hz, if_neg hz]
              exact ⟨rfl, rfl, rfl⟩
          obtain ⟨s1, s2, s3⟩ := hs
          dsimp only
          rw [s1]
          split
          · exact ⟨rfl, by unfold ALog.next; rw [s3]⟩
          · exact hput _ _ s2 s3 _ _ _ _
end Go.Proofs.YtgjkjkeeblbjlaaGreatDoor
