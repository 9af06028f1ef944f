/-
  Package disk: the small functions: the walks. Conditions: texts that fit.
-/
import Derived.Test.YtnibpknhpjcamaaGreatDoorDiskR
import Derived.Test.YtnibpknhpjcamaaGreatDoorLib
import Derived.BigQuiet
import Derived.Deep.QuietTactic
import Derived.Deep.RegionWith
set_option maxRecDepth 100000
namespace Go.Proofs.YtnibpknhpjcamaaGreatDoor
open Go.RowKit

set_option maxHeartbeats 400000 in
theorem blocks_any (n : Int) (w : World) (h0 : 0 ≤ n) (h1 : n ≤ 140737488355328) :
    Calls Tryz.prog 63 #[.int .i64 n] w fun e w' => e = .returned (.int .i64 (blk n)) ∧ w = w' := by
  have hd : Int.tdiv (n + 63) 64 = (n + 63) / 64 := Int.tdiv_eq_ediv_of_nonneg (by omega)
  have hs : n + 64 - 1 = n + 63 := by omega
  have HB : Hid (blk n = max 1 ((n + 63) / 64)) := by unfold blk; refine hid ?_; split <;> omega
  go_enter Tryz.func63, Tryz.ntmps63
  go_wp2_with fail
  go_ret
  exact ⟨by rw [HB.out]; rfl, rfl⟩

set_option maxHeartbeats 400000 in
theorem size_any (b : Nat) (f : PFile) (w : World) (hb : Blk w b #[.string (bs f.sure), .string (bs f.loose)] 112) (h1 : f.sure.length ≤ 1048576) (h2 : f.loose.length ≤ 1048576) :
    Calls Tryz.prog 64 #[ptr b] w fun e w' => e = .returned (.int .i64 f.size) ∧ ∃ n, w' = w.drewN n := by
  have c0 := hb.cell (i := 0) (v := .string (bs f.sure)) rfl
  have c1 := hb.cell (i := 1) (v := .string (bs f.loose)) rfl
  have e0 : (bs f.sure).size = f.sure.length := rfl
  have e1 : (bs f.loose).size = f.loose.length := rfl
  go_enter Tryz.func64, Tryz.ntmps64
  unfold ptr
  go_wp2_with fail
  go_quiet (fail)
  go_wp2_with fail
  go_ret
  exact ⟨by rw [show ((f.size : Nat) : Int) = (f.sure.length : Int) + f.loose.length from by simp [PFile.size]]; rfl, _, rfl⟩

/-- The bytes that a name may have. -/
def nameSet : List UInt8 := [97, 98, 99, 100, 101, 102, 103, 104, 105, 106, 107, 108, 109, 110, 111, 112, 113, 114, 115, 116, 117, 118, 119, 120, 121, 122, 48, 49, 50, 51, 52, 53, 54, 55, 56, 57, 46, 45]

theorem nameSet_byte : ∀ c : UInt8, nameSet.contains c = nameByte c := by
  intro c
  have h : ∀ n : Fin 256, nameSet.contains (UInt8.ofNat n.val) = nameByte (UInt8.ofNat n.val) := by decide
  have := h ⟨c.toNat, c.toNat_lt⟩
  simpa using this

theorem nameSet_ascii : ∀ (j : Nat) (b : UInt8), nameSet[j]? = some b → b.toNat < 128 := by
  intro j b h
  have : b ∈ nameSet := List.mem_of_getElem? h
  revert this
  have : ∀ c ∈ nameSet, c.toNat < 128 := by decide
  exact this b

theorem dropWhile_nil_iff {p : UInt8 → Bool} : ∀ {l : List UInt8}, l.dropWhile p = [] ↔ ∀ x ∈ l, p x = true
  | [] => by simp
  | a :: l => by
    rw [List.dropWhile_cons]
    cases h : p a with
    | true => simp [h, dropWhile_nil_iff (l := l)]
    | false => simp [h]

theorem trim_all (l cs : List UInt8) : (Lib.trimS l cs = []) ↔ (l.all fun c => cs.contains c) = true := by
  unfold Lib.trimS Lib.trimLeftS Lib.trimRightS
  simp only [dropWhile_nil_iff, List.mem_reverse, List.all_eq_true]
  constructor
  · intro h x hx
    by_cases hm : x ∈ l.reverse.dropWhile (fun b => cs.contains b)
    · exact h x hm
    · have hx2 : x ∈ l.reverse := by simpa using hx
      rw [← List.takeWhile_append_dropWhile (p := fun b => cs.contains b) (l := l.reverse)] at hx2
      rcases List.mem_append.1 hx2 with h3 | h3
      · exact List.all_eq_true.1 (List.all_takeWhile) x h3
      · exact absurd h3 hm
  · intro h x hx
    exact h x (by simpa using List.dropWhile_subset (fun b => cs.contains b) hx)

set_option maxHeartbeats 400000 in
theorem named_any (s : ByteArray) (w : World) (hs : s.size ≤ 1099511627776) :
    Calls Tryz.prog 84 #[.string s] w fun e w' => e = .returned (.bool (okName (tl s))) ∧ Below w.heap.size w w' := by
  have hlen := tl_len s
  have HO : Hid (okName (tl s) = (!(tl s).isEmpty && decide ((tl s).length ≤ 24) && (tl s).all nameByte)) := hid rfl
  by_cases h0 : tl s = []
  · have hne : s.toList.isEmpty = true := by rw [toList_tl, h0]; rfl
    have HF : Hid (okName (tl s) = false) := hid (by rw [HO.out, h0]; rfl)
    clear HO h0
    go_enter Tryz.func84, Tryz.ntmps84
    go_wp2_with fail
    go_ret
    exact ⟨by rw [HF.out]; rfl, Below.refl _ _⟩
  · have hne : s.toList.isEmpty = false := by rw [toList_tl]; simpa using h0
    by_cases h24 : s.size ≤ 24
    · by_cases hall : (tl s).all nameByte = true
      · have HF : Hid (okName (tl s) = true) := hid (by rw [HO.out, hall, hlen]; simp [h0, h24])
        have htr : Lib.trimS (tl s) nameSet = [] := (trim_all _ _).2 (by rw [← hall]; congr 1; funext c; exact nameSet_byte c)
        obtain ⟨r, hr, he⟩ : ∃ r : ByteArray, (⟨(Lib.trimS s.data.toList (bs nameSet).data.toList).toArray⟩ : ByteArray) = r ∧ r.toList.isEmpty = true := ⟨_, rfl, by rw [toList_tl]; show (Lib.trimS (tl s) nameSet).isEmpty = true; simpa using htr⟩
        clear HO htr hall h0
        go_enter Tryz.func84, Tryz.ntmps84
        go_wp2_with fail
        refine (Tryz.strings_Trim s (bs nameSet) _ (by omega) (by decide) nameSet_ascii).mono ?_
        rintro e w1 ⟨rfl, hb⟩
        rw [hr]
        go_wp2_with fail
        go_ret
        exact ⟨by rw [HF.out]; rfl, hb⟩
      · have HF : Hid (okName (tl s) = false) := hid (by rw [HO.out]; simp [hall])
        have htr : ¬ Lib.trimS (tl s) nameSet = [] := fun h => hall (by rw [← (trim_all _ _).1 h]; congr 1; funext c; exact (nameSet_byte c).symm)
        obtain ⟨r, hr, he⟩ : ∃ r : ByteArray, (⟨(Lib.trimS s.data.toList (bs nameSet).data.toList).toArray⟩ : ByteArray) = r ∧ r.toList.isEmpty = false := ⟨_, rfl, by rw [toList_tl]; show (Lib.trimS (tl s) nameSet).isEmpty = false; simpa using htr⟩
        clear HO htr hall h0
        go_enter Tryz.func84, Tryz.ntmps84
        go_wp2_with fail
        refine (Tryz.strings_Trim s (bs nameSet) _ (by omega) (by decide) nameSet_ascii).mono ?_
        rintro e w1 ⟨rfl, hb⟩
        rw [hr]
        go_wp2_with fail
        go_ret
        exact ⟨by rw [HF.out]; rfl, hb⟩
    · have HF : Hid (okName (tl s) = false) := hid (by rw [HO.out, hlen]; simp [h24])
      clear HO h0
      go_enter Tryz.func84, Tryz.ntmps84
      go_wp2_with fail
      go_ret
      exact ⟨by rw [HF.out]; rfl, Below.refl _ _⟩

set_option maxHeartbeats 400000 in
theorem burn_any (d m : Nat) (fs : List (Nat × PFile)) (D : PDisk) (w : World) (h : DiskRep w d m fs D) (h1 : -1 ≤ D.fuse) (h2 : D.fuse ≤ 9223372036854775807) :
    Calls Tryz.prog 92 #[ptr d] w fun e w' => e = .returned (.bool D.burn.2) ∧ DiskRep w' d m fs D.burn.1 ∧ Fr (fun k => k = d) w w' := by
  obtain ⟨c0, c1, c2, c3, f0, f1, f2, f3⟩ := h.cells
  unfold ptr
  by_cases h0 : D.fuse = 0
  · have HF : Hid (D.burn = ({ D with off := true }, false)) := hid (by unfold PDisk.burn; rw [if_pos h0])
    go_enter Tryz.func92, Tryz.ntmps92
    go_wp2_with fail
    go_ret
    rw [HF.out]
    have hf : Fr (fun k => k = d) w (w.setCell ⟨d, 3, none⟩ (.bool true)) := Fr.setCell (S := fun k => k = d) (p := ⟨d, 3, none⟩) (Fr.refl _ w) (.inl rfl) _
    exact ⟨rfl, h.set hf (h.hdr.set 3 _), hf⟩
  · by_cases hp : 0 < D.fuse
    · have HF : Hid (D.burn = ({ D with fuse := D.fuse - 1 }, true)) := hid (by unfold PDisk.burn; rw [if_neg h0, if_pos hp])
      go_enter Tryz.func92, Tryz.ntmps92
      go_wp2_with fail
      go_ret
      rw [HF.out]
      have hf : Fr (fun k => k = d) w (w.setCell ⟨d, 2, none⟩ (.int .i64 (D.fuse - 1))) := Fr.setCell (S := fun k => k = d) (p := ⟨d, 2, none⟩) (Fr.refl _ w) (.inl rfl) _
      exact ⟨rfl, h.set hf (h.hdr.set 2 _), hf⟩
    · have HF : Hid (D.burn = (D, true)) := hid (by unfold PDisk.burn; rw [if_neg h0, if_neg hp])
      go_enter Tryz.func92, Tryz.ntmps92
      go_wp2_with fail
      go_ret
      rw [HF.out]
      exact ⟨rfl, h, Fr.refl _ w⟩

set_option maxHeartbeats 400000 in
theorem ready_any (d m : Nat) (fs : List (Nat × PFile)) (D : PDisk) (g : Nat) (s : List UInt8) (w : World) (h : DiskRep w d m fs D) (hg : w.cell? ⟨g, 0, none⟩ = some (.string (bs s))) (hs : s.length ≤ 1099511627776) :
    Calls Tryz.prog 50 #[ptr d, .slice (some ⟨g, 0, none⟩) 1 1] w fun e w' => e = .returned (.int .i64 (D.ready s)) ∧ Below w.heap.size w w' := by
  obtain ⟨c0, c1, c2, c3, f0, f1, f2, f3⟩ := h.cells
  have hdlt := h.dlt
  have es : (bs s).size = s.length := rfl
  have HR : Hid (D.ready s = if okName s then (if D.off then 4 else 0) else 1) := hid rfl
  unfold ptr
  go_enter Tryz.func50, Tryz.ntmps50
  go_wp2_with fail
  go_loopw [9] (fun a wr => ∃ k : Nat, a = .int .i64 k ∧ Below w.heap.size w wr ∧ ((k = 0 ∧ wr = w) ∨ (k = 1 ∧ okName s = true))) (fun a _ => 1 - (intOf a).toNat)
  case atStart => exact ⟨0, rfl, Below.refl _ _, .inl ⟨rfl, rfl⟩⟩
  case round =>
    obtain ⟨k, rfl, hb, hk⟩ := hrel
    rcases hk with ⟨rfl, rfl⟩ | ⟨rfl, hok⟩
    · cases hok : okName s with
      | true =>
        have HK := hid hok
        clear hok
        go_wp2_with fail
        refine (named_any (bs s) _ (by omega)).mono ?_
        rintro e w1 ⟨rfl, hb1⟩
        rw [tl_bs, HK.out]
        go_wp2_with fail
        go_roundw
        case rel => exact ⟨1, rfl, hb1, .inr ⟨rfl, trivial⟩⟩
        case measure => simp [intOf]
      | false =>
        have HK := hid hok
        clear hok
        go_wp2_with fail
        refine (named_any (bs s) _ (by omega)).mono ?_
        rintro e w1 ⟨rfl, hb1⟩
        rw [tl_bs, HK.out]
        go_wp2_with fail
        go_ret
        refine ⟨?_, hb1⟩
        rw [HR.out, HK.out]; rfl
    · have HK := hid hok
      clear hok
      have c3' : wr.cell? ⟨d, 3, none⟩ = some (.bool D.off) := (hb.cell (p := ⟨d, 3, none⟩) hdlt).trans c3
      cases hoff : D.off with
      | true =>
        rw [hoff] at c3'
        go_wp2_with fail
        go_ret
        refine ⟨?_, hb⟩
        rw [HR.out, HK.out, hoff]; rfl
      | false =>
        rw [hoff] at c3'
        go_wp2_with fail
        go_ret
        refine ⟨?_, hb⟩
        rw [HR.out, HK.out, hoff]; rfl

set_option maxHeartbeats 400000 in
theorem new_any (n : Int) (w : World) (hn : 1 ≤ n ∧ n ≤ 16384) :
    Calls Tryz.prog 38 #[.int .i64 n] w fun e w' => e = .returned (.tuple #[ptr (w.heap.size + 1), .int .i64 0]) ∧ DiskRep w' (w.heap.size + 1) w.heap.size [] ⟨[], n, -1, false⟩ ∧ Below w.heap.size w w' := by
  obtain ⟨h1, h2⟩ := hn
  have hmm := @run_makeMap Tryz.prog
  go_enter Tryz.func38, Tryz.ntmps38
  go_wp2_with fail
  go_ret2
  refine ⟨rfl, DiskRep.made ?_ ?_, bel_alloc (bel_alloc (Below.refl _ _) _) _⟩
  · simpa using Blk.new (w.alloc (.map #[] 0)) #[.map (some w.heap.size), .int .i64 n, .int .i64 (-1), .bool false] 110
  · exact (MapAt.made w).fr ((Fr.refl (fun _ => False) _).alloc _) (fun h => h)

set_option maxHeartbeats 400000 in
theorem new_bad (n : Int) (w : World) (hn : ¬ (1 ≤ n ∧ n ≤ 16384)) :
    Calls Tryz.prog 38 #[.int .i64 n] w fun e w' => e = .returned (.tuple #[.pointer none, .int .i64 1]) ∧ w = w' := by
  by_cases h1 : n < 1
  · clear hn
    go_enter Tryz.func38, Tryz.ntmps38
    go_wp2_with fail
    go_ret2
    exact ⟨rfl, rfl⟩
  · have h2 : 16384 < n := by omega
    clear hn
    go_enter Tryz.func38, Tryz.ntmps38
    go_wp2_with fail
    go_ret2
    exact ⟨rfl, rfl⟩

end Go.Proofs.YtnibpknhpjcamaaGreatDoor
