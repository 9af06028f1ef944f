/-
  disk: Files, Free, Fuse, Off: the walks. No conditions.
-/
import Derived.Test.YtnibpknhpjcamaaGreatDoorDiskB
import Derived.Deep.RegionHeld3
import Derived.Deep.AppendLies
import Derived.Sort.KeysCollected
import Derived.Lib.SmallJoins
set_option maxRecDepth 100000
namespace Go.Proofs.YtnibpknhpjcamaaGreatDoor
open Go.RowKit Go.Maps

set_option maxHeartbeats 400000 in
theorem free_any (d : Nat) (S : Nat → Prop) (D : PDisk) (w : World) (h : DiskAt w d S D) :
    Calls Tryz.prog 25 #[ptr d] w fun e w' => e = .returned (.int .i64 D.room) ∧ w = w' := by
  obtain ⟨m, fs, h, hS⟩ := h
  obtain ⟨c0, c1, c2, c3, f0, f1, f2, f3⟩ := h.cells
  unfold ptr
  go_enter Tryz.func25, Tryz.ntmps25
  go_wp2_with fail
  go_ret
  exact ⟨rfl, rfl⟩

set_option maxHeartbeats 400000 in
theorem off_any (d : Nat) (S : Nat → Prop) (D : PDisk) (w : World) (h : DiskAt w d S D) :
    Calls Tryz.prog 66 #[ptr d] w fun e w' => e = .returned (.bool D.off) ∧ w = w' := by
  obtain ⟨m, fs, h, hS⟩ := h
  obtain ⟨c0, c1, c2, c3, f0, f1, f2, f3⟩ := h.cells
  unfold ptr
  go_enter Tryz.func66, Tryz.ntmps66
  go_wp2_with fail
  go_ret
  exact ⟨rfl, rfl⟩

set_option maxHeartbeats 400000 in
theorem fuse_any (d : Nat) (S : Nat → Prop) (D : PDisk) (n : Int) (w : World) (h : DiskAt w d S D) :
    Calls Tryz.prog 30 #[ptr d, .int .i64 n] w fun e w' => e = .returned (.tuple #[]) ∧ DiskTo w w' d S { D with fuse := max n (-1) } := by
  obtain ⟨m, fs, h, hS⟩ := h
  obtain rfl : S = foot d m fs := funext fun k => propext (hS k)
  obtain ⟨c0, c1, c2, c3, f0, f1, f2, f3⟩ := h.cells
  unfold ptr
  go_enter Tryz.func30, Tryz.ntmps30
  go_wp2_with fail
  have hf : Fr (fun k => k = d) w (w.setCell ⟨d, 2, none⟩ (.int .i64 (max n (-1)))) := Fr.setCell (S := fun k => k = d) (p := ⟨d, 2, none⟩) (Fr.refl _ _) (.inl rfl) _
  refine ⟨rfl, .tuple #[], by simp [results, Tryz.results30, go_sem], rfl, .of_rep (h.set hf (h.hdr.set 2 _)) (hf.mono (by rintro k _ rfl; exact .inl rfl)) (fun k hk => .inl hk)⟩

theorem MapAt.own {w : World} {m : Nat} {kvs : List (ByteArray × Value)} (h : MapAt w m kvs) (h1 : kvs.length ≤ 256) (h2 : ∀ p ∈ kvs, p.1.size ≤ maxLen) :
    ∃ D0 : DataW Unit, w.ownsMap Tryz.prog 9 (fun _ => some (.nil, [])) m 256 D0 ∧ Maps.size D0 = kvs.length ∧ (strKeys D0).Perm (kvs.map fun p => tl p.1) := by
  obtain ⟨es, c, hb, hs, hp⟩ := h
  have hl : es.size = kvs.length := by have := hp.length_eq; simpa using this
  have hrd : ∀ x ∈ es.toList, ∃ p ∈ kvs, x.key = .string p.1 ∧ WideElems.rd (H := Unit) Tryz.prog 9 (fun _ => some (.nil, [])) x = some (.string (tl p.1), .nil) := by
    intro x hx
    have : (x.key, x.val) ∈ kvs.map fun p => (Value.string p.1, p.2) := hp.mem_iff.1 (List.mem_map.2 ⟨x, hx, rfl⟩)
    obtain ⟨p, hpm, e⟩ := List.mem_map.1 this
    simp only [Prod.mk.injEq] at e
    refine ⟨p, hpm, e.1.symm, ?_⟩
    have hk : keyOf Tryz.prog 9 x.key = some (.string (tl p.1)) := by
      rw [← e.1]
      have hsz := h2 p hpm
      simp [keyOf, Tryz.underlying9, mapKey, hsz, tl]
    simp [WideElems.rd, hk]
  refine ⟨_, ⟨es, c, hb, ⟨by rw [hl]; unfold maxLen; omega, hs, fun x hx => let ⟨p, _, _, e⟩ := hrd x hx; ⟨_, e⟩⟩, by omega, rfl⟩, ?_, ?_⟩
  · simp only [Maps.size, length_sorted, List.length_map, Array.length_toList]; exact hl
  · show (((es.toList.map _).foldr DataW.insert []).map fun p => strOf p.1).Perm _
    refine ((WideShapes.sorted_perm _).map _).trans ?_
    rw [List.map_map]
    have e1 : es.toList.map ((fun p : Lit × DataW Unit => strOf p.1) ∘ WideElems.rg Tryz.prog 9 (fun _ => some (.nil, []))) = (es.toList.map fun e => (e.key, e.val)).map (fun q => match q.1 with | .string s => tl s | _ => []) := by
      rw [List.map_map]
      refine List.map_congr_left fun x hx => ?_
      obtain ⟨p, _, e, hr⟩ := hrd x hx
      simp only [Function.comp, WideElems.rg, hr, Option.getD_some, e]
      rfl
    rw [e1]
    refine (hp.map _).trans ?_
    rw [List.map_map]
    exact List.Perm.of_eq rfl

theorem Tryz.infoFile : (Tryz.prog.info? 105).map (fun i => (i.zero, i.size, i.bytes)) = some (some (.agg #[.string ⟨#[]⟩, .string ⟨#[]⟩, .string ⟨#[]⟩]), 3, 48) := by kernel_rfl

def fileCells (l : List PFile) : List Value := l.flatMap fun f => [.string (bs f.name), .string (bs f.sure), .string (bs f.loose)]

theorem fileCells_len (l : List PFile) : (fileCells l).length = 3 * l.length := by
  induction l with
  | nil => rfl
  | cons f l ih => simp [fileCells] at ih ⊢; omega

theorem okName_len {s : List UInt8} (h : okName s = true) : s.length ≤ 24 := by
  unfold okName at h
  simp at h
  exact h.1.2

theorem mergeSort_sorted {l : List (List UInt8)} (h : l.Pairwise (· < ·)) : l.mergeSort (fun x y => decide (x ≤ y)) = l :=
  List.mergeSort_of_pairwise (h.imp fun hlt => by simpa using List.le_of_lt hlt)

set_option maxHeartbeats 4000000 in
theorem files_any (d : Nat) (S : Nat → Prop) (D : PDisk) (N : Int) (w : World) (h : DiskAt w d S D) (hw : D.WF N) :
    Calls Tryz.prog 22 #[ptr d] w fun e w' => ∃ v, e = .returned v ∧ w'.ownsRow w.heap.size 105 3 v D.files.length (fileCells D.files) ∧ Below w.heap.size w w' := by
  obtain ⟨i0, hi, hz0, hz1, hz2⟩ := info_parts Tryz.infoFile
  obtain ⟨m, fs, h, hS⟩ := h
  obtain ⟨c0, c1, c2, c3, f0, f1, f2, f3⟩ := h.cells
  have hcount := hw.count
  have hdlt := h.dlt
  obtain ⟨D0, hown, hsz, hperm⟩ := h.map.own (by rw [List.length_map, h.len]; exact hcount) (by
    intro p hp
    obtain ⟨x, hx, rfl⟩ := List.mem_map.1 hp
    have := okName_len (hw.ok _ (h.mem' hx))
    show x.2.name.length ≤ maxLen
    unfold maxLen; omega)
  have hkeys : (strKeys D0).Perm (D.files.map (·.name)) := by
    refine hperm.trans (List.Perm.of_eq ?_)
    rw [← h.files, List.map_map, List.map_map]
    exact List.map_congr_left fun x _ => tl_bs _
  rw [List.length_map, h.len] at hsz
  have HW := hid hw
  have HKEYS := hid hkeys
  clear hw hkeys hperm
  unfold ptr
  go_enter Tryz.func22, Tryz.ntmps22
  go_wp2_with fail
  refine (callsIn_wide.1 (Tryz.maps_Keys_52 (some m) w)).mono ?_
  rintro e w1 ⟨rfl, rfl⟩
  go_wp2_with fail
  refine (callsIn_wide.1 (Tryz.slices_Sorted_keys_51_52 m 256 D0 _ w hown (by rw [hsz]; unfold maxLen; omega) (by omega))).mono ?_
  rintro e w2 ⟨nv, ss, rfl, hss, hrow, _, hbel⟩
  have hsort : ss.mergeSort (fun x y => decide (x ≤ y)) = D.files.map (·.name) := by
    rw [mergeSort_of_perm (hss.trans HKEYS.out)]
    exact mergeSort_sorted ((sorted_names _).1 HW.out.sorted)
  have hlen : ss.length = D.files.length := by have := (hss.trans HKEYS.out).length_eq; simpa using this
  rw [hsort, hlen, List.map_map] at hrow
  obtain ⟨ad, cap, rfl, hcell⟩ : ∃ ad cap, nv = .slice ad D.files.length cap ∧ ∀ k f, D.files[k]? = some f → ∃ g, ad = some ⟨g, 0, none⟩ ∧ w2.cell? ⟨g, k, none⟩ = some (.string (bs f.name)) := by
    rcases Joins.ownsRow_forms hrow with ⟨e, hz⟩ | ⟨g, cap, rfl⟩
    · refine ⟨none, 0, by rw [e, hz], fun k f hk => ?_⟩
      have := (List.getElem?_eq_some_iff.1 hk).1
      omega
    · refine ⟨_, cap, rfl, fun k f hk => ⟨g, rfl, ?_⟩⟩
      have hk1 := (List.getElem?_eq_some_iff.1 hk).1
      rw [hrow.cellAt k (by omega), List.getElem?_map, hk]
      rfl
  have HCELL := hid hcell
  have HBEL := hid hbel
  have hb2 : Below w.heap.size w w2 := bel_next (bel_alloc (Below.refl _ _) _) hbel
  have hdisk := h.below hb2
  have HD := hid hdisk
  have HD0 := hid h
  have hsz2 := hb2.size
  clear hcell hbel hrow hss hsort hlen hown hdisk h c0 c1 c2 c3 f0 f1 f2 f3
  go_wp2_with fail
  go_loopw [17, 3] (fun a l wr => ∃ (k : Nat) (v : Value), k ≤ D.files.length ∧ a = .int .i64 k ∧ v = l ∧ Below w2.heap.size w2 wr ∧ wr.ownsRow w2.heap.size 105 3 v k (fileCells (D.files.take k))) (fun a _ _ => D.files.length - (intOf a).toNat)
  case atStart => exact ⟨0, _, by omega, rfl, rfl, Below.refl _ _, World.ownsRow_nil _ _ _ _⟩
  case round =>
    obtain ⟨k, v, hk, rfl, rfl, hb, hown⟩ := hrel
    by_cases hlt : k < D.files.length
    · obtain ⟨g, rfl, hc⟩ := HCELL.out k D.files[k] (by rw [List.getElem?_eq_getElem hlt])
      obtain ⟨b, hbm⟩ := HD0.out.mem (List.getElem_mem hlt)
      have hf : D.files[k] ∈ D.files := List.getElem_mem hlt
      have htk : fileCells (D.files.take (k + 1)) = fileCells (D.files.take k) ++ [.string (bs D.files[k].name), .string (bs D.files[k].sure), .string (bs D.files[k].loose)] := by
        rw [List.take_succ_eq_append_getElem hlt]; unfold fileCells; rw [List.flatMap_append]; simp
      have HTK := hid htk
      clear htk
      have hls := HW.out.lens hf
      generalize D.files[k] = f at *
      have hglt := World.block_lt_of_cell? w2 _ hc
      have hc' : wr.cell? ⟨g, k, none⟩ = some (.string (bs f.name)) := (hb.cell (p := ⟨g, k, none⟩) hglt).trans hc
      have hdr := HD.out.below hb
      obtain ⟨c0, c1, c2, c3, f0, f1, f2, f3⟩ := hdr.cells
      have hlk := hdr.find hbm
      unfold ptr at hlk
      have hbk := hdr.blk _ hbm
      have b0 := hbk.cell (i := 0) (v := .string (bs f.sure)) rfl
      have b1 := hbk.cell (i := 1) (v := .string (bs f.loose)) rfl
      have hblt := hbk.lt
      have hsw := hb.size
      have hbold : b < w2.heap.size := (HD.out.blk _ hbm).lt
      have n1 : some b ≠ v.ownBlock := fun e => by have := (hown.lt _ e.symm).1; omega
      clear hc
      have hk0 : (0 : Int) ≤ (k : Int) := by omega
      have hk1 : (k : Int) < (D.files.length : Int) := by omega
      have hsz3 : w2.heap.size ≤ wr.heap.size := hsw
      have hbase : w2.heap.size ≤ (wr.alloc (.cells #[.string (bs f.name), .string (bs f.sure), .string (bs f.loose)] 105)).heap.size := by simp; omega
      go_wp2_with fail
      go_region_held3 (fun w' => w'.cell? ⟨b, 0, none⟩ = some (.string (bs f.sure)) ∧ w'.cell? ⟨b, 1, none⟩ = some (.string (bs f.loose)))
        (first
          | go_keep
          | (go_split_ands
             refine ⟨?_, ?_⟩
             · (rw [hgrow.cell_far _ (by simp; omega) n1]; assumption)
             · (rw [hgrow.cell_far _ (by simp; omega) n1]; assumption)))
        ((refine step_append_lies _ (by rfl) _ _ _ (by rfl) w2.heap.size 105 i0 _ 3 48 Tryz.underlying48 hi hz0 hz1 hz2 rfl (by omega) v k _ (by rfl) ((hown.alloc _).drew) ⟨wr.heap.size, 0, none⟩ 1 1 [.string (bs f.name), .string (bs f.sure), .string (bs f.loose)] (by rfl) (by rfl) (World.news_of_block (cs := #[.string (bs f.name), .string (bs f.sure), .string (bs f.loose)]) (t := 105) (fr := (0, 0)) (heap_alloc_new wr _)) (by simp [Value.oneCell']) (by omega) (by unfold maxLen; omega) (by omega) hbase (wr.heap.size + 1) (by simp) ?_; intro gg cap2 w3 hown3 hgrow hat hlt3))
      go_wp2_with fail
      go_roundw
      case rel =>
        refine ⟨k + 1, _, by omega, by go_num, rfl, ?_, ?_⟩
        · have hgb : Below w2.heap.size w2 (wr.alloc (.cells #[.string (bs f.name), .string (bs f.sure), .string (bs f.loose)] 105)).drew := (hb.alloc hsw _).drew
          exact hgb.grown hgrow (by simpa using hbase) (fun j hj => by have := (hown.lt j hj).1; omega)
        · rw [HTK.out]; exact hown3
      case measure => simp [intOf]; omega
    · have hkn : k = D.files.length := by omega
      have HK := hid hkn
      clear hkn
      have hown2 : wr.ownsRow w.heap.size 105 3 v D.files.length (fileCells D.files) := by
        have := own_base hown hsz2
        rwa [HK.out, List.take_length] at this
      go_wp2_with fail
      go_ret
      exact ⟨_, rfl, hown2, bel_next hb2 hb⟩

end Go.Proofs.YtnibpknhpjcamaaGreatDoor
