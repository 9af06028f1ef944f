/-
  seglog: named, from, base: the walks. Conditions: numbers and texts that fit.
-/
import Derived.Test.YtnibpknhpjcamaaGreatDoorLogN
import Derived.Lib.ConvBytes
set_option maxRecDepth 100000
namespace Go.Proofs.YtnibpknhpjcamaaGreatDoor
open Go.RowKit

/-- Letters, digits. -/
def logByte (c : UInt8) : Bool := (97 ≤ c.toNat && c.toNat ≤ 122) || (48 ≤ c.toNat && c.toNat ≤ 57)
/-- May a log have that name? -/
def okLog (s : List UInt8) : Bool := !s.isEmpty && decide (s.length ≤ 8) && s.all logByte

def logSet : List UInt8 := [97, 98, 99, 100, 101, 102, 103, 104, 105, 106, 107, 108, 109, 110, 111, 112, 113, 114, 115, 116, 117, 118, 119, 120, 121, 122, 48, 49, 50, 51, 52, 53, 54, 55, 56, 57]

theorem logSet_byte : ∀ c : UInt8, logSet.contains c = logByte c := by
  intro c
  have h : ∀ i : Fin 256, logSet.contains (UInt8.ofNat i.val) = logByte (UInt8.ofNat i.val) := by decide +kernel
  have := h ⟨c.toNat, c.toNat_lt⟩
  simpa using this

theorem logSet_ascii : ∀ (j : Nat) (b : UInt8), logSet[j]? = some b → b.toNat < 128 := by
  intro j b h
  have hm := List.mem_of_getElem? h
  have : ∀ x ∈ logSet, x.toNat < 128 := by decide +kernel
  exact this b hm

set_option maxHeartbeats 400000 in
theorem logNamed_any (s : ByteArray) (w : World) (hs : s.size ≤ 140737488355328) :
    Calls Tryz.prog 65 #[.string s] w fun e w' => e = .returned (.bool (okLog (tl s))) ∧ Below w.heap.size w w' := by
  have hlen := tl_len s
  have HO : Hid (okLog (tl s) = (!(tl s).isEmpty && decide ((tl s).length ≤ 8) && (tl s).all logByte)) := hid rfl
  by_cases h0 : tl s = []
  · have hne : s.toList.isEmpty = true := by rw [toList_tl, h0]; rfl
    have HF : Hid (okLog (tl s) = false) := hid (by rw [HO.out, h0]; rfl)
    clear HO h0
    go_enter Tryz.func65, Tryz.ntmps65
    go_wp2_with fail
    go_ret
    exact ⟨by rw [HF.out]; rfl, Below.refl _ _⟩
  · have hne : s.toList.isEmpty = false := by rw [toList_tl]; simpa using h0
    by_cases h24 : s.size ≤ 8
    · by_cases hall : (tl s).all logByte = true
      · have HF : Hid (okLog (tl s) = true) := hid (by rw [HO.out, hall, hlen]; simp [h0, h24])
        have htr : Lib.trimS (tl s) logSet = [] := (trim_all _ _).2 (by rw [← hall]; congr 1; funext c; exact logSet_byte c)
        obtain ⟨r, hr, he⟩ : ∃ r : ByteArray, (⟨(Lib.trimS s.data.toList (bs logSet).data.toList).toArray⟩ : ByteArray) = r ∧ r.toList.isEmpty = true := ⟨_, rfl, by rw [toList_tl]; show (Lib.trimS (tl s) logSet).isEmpty = true; simpa using htr⟩
        clear HO htr hall h0
        go_enter Tryz.func65, Tryz.ntmps65
        go_wp2_with fail
        refine (Tryz.strings_Trim s (bs logSet) _ (by omega) (by decide) logSet_ascii).mono ?_
        rintro e w1 ⟨rfl, hb⟩
        rw [hr]
        go_wp2_with fail
        go_ret
        exact ⟨by rw [HF.out]; rfl, hb⟩
      · have HF : Hid (okLog (tl s) = false) := hid (by rw [HO.out]; simp [hall])
        have htr : ¬ Lib.trimS (tl s) logSet = [] := fun h => hall (by rw [← (trim_all _ _).1 h]; congr 1; funext c; exact (logSet_byte c).symm)
        obtain ⟨r, hr, he⟩ : ∃ r : ByteArray, (⟨(Lib.trimS s.data.toList (bs logSet).data.toList).toArray⟩ : ByteArray) = r ∧ r.toList.isEmpty = false := ⟨_, rfl, by rw [toList_tl]; show (Lib.trimS (tl s) logSet).isEmpty = false; simpa using htr⟩
        clear HO htr hall h0
        go_enter Tryz.func65, Tryz.ntmps65
        go_wp2_with fail
        refine (Tryz.strings_Trim s (bs logSet) _ (by omega) (by decide) logSet_ascii).mono ?_
        rintro e w1 ⟨rfl, hb⟩
        rw [hr]
        go_wp2_with fail
        go_ret
        exact ⟨by rw [HF.out]; rfl, hb⟩
    · have HF : Hid (okLog (tl s) = false) := hid (by rw [HO.out, hlen]; simp [h24])
      clear HO h0
      go_enter Tryz.func65, Tryz.ntmps65
      go_wp2_with fail
      go_ret
      exact ⟨by rw [HF.out]; rfl, Below.refl _ _⟩

/-- The place of the last mark that is not behind an offset. -/
def fromL (off : Int) (l : List PMark) : Int := l.foldl (fun at' m => if m.off ≤ off then m.pos else at') 0

theorem fromL_snoc (off : Int) (l : List PMark) (m : PMark) : fromL off (l ++ [m]) = if m.off ≤ off then m.pos else fromL off l := by
  unfold fromL; rw [List.foldl_append]; rfl

theorem markCells_at : ∀ (l : List PMark) (i : Nat) (x : PMark), l[i]? = some x → (markCells l)[i * 3]? = some (.int .i64 x.off) ∧ (markCells l)[i * 3 + 1]? = some (.int .i64 x.seg) ∧ (markCells l)[i * 3 + 2]? = some (.int .i64 x.pos)
  | [], i, x, h => by simp at h
  | y :: l, 0, x, h => by
    simp only [List.getElem?_cons_zero, Option.some.injEq] at h
    subst h
    exact ⟨rfl, rfl, rfl⟩
  | y :: l, i + 1, x, h => by
    simp only [List.getElem?_cons_succ] at h
    obtain ⟨h1, h2, h3⟩ := markCells_at l i x h
    have e1 : (i + 1) * 3 = i * 3 + 3 := by omega
    rw [e1]
    exact ⟨h1, h2, h3⟩

def FromRel (w : World) (off : Int) (l : List PMark) (c at' : Value) (wr : World) : Prop :=
  ∃ k : Nat, k ≤ l.length ∧ c = .int .i64 k ∧ at' = .int .i64 (fromL off (l.take k)) ∧ Below w.heap.size w wr

set_option maxHeartbeats 1000000 in
theorem from_any {w : World} (b n m off : Int) (mv : Value) (l : List PMark) (hr : Reads w mv l.length 3 (markCells l)) (hlen : l.length ≤ 1048576) :
    Calls Tryz.prog 49 #[.agg #[.int .i64 b, .int .i64 n, .int .i64 m, mv], .int .i64 off] w fun e w' => e = .returned (.int .i64 (fromL off l)) ∧ Below w.heap.size w w' := by
  obtain ⟨_, ad, cap, rfl, hc⟩ := hr
  have HC := hid hc
  clear hc
  go_enter Tryz.func49, Tryz.ntmps49
  go_wp2_with fail
  go_loopw [11, 5] (fun c a wr => FromRel w off l c a wr) (fun c _ _ => l.length - (intOf c).toNat)
  case atStart => exact ⟨0, by omega, rfl, rfl, (Below.refl _ _).alloc (Nat.le_refl _) _⟩
  case round =>
    obtain ⟨k, hk, rfl, rfl, hb⟩ := hrel
    by_cases hlt : k < l.length
    · obtain ⟨x, hx⟩ : ∃ x, l[k]? = some x := ⟨_, List.getElem?_eq_getElem hlt⟩
      obtain ⟨i0, i1, i2⟩ := markCells_at l k x hx
      obtain ⟨g, hg, j0⟩ := HC.out _ _ i0
      obtain ⟨g', hg', j1⟩ := HC.out _ _ i1
      rw [hg] at hg'
      simp only [Option.some.injEq, Addr.mk.injEq, and_true] at hg'
      subst hg'
      obtain ⟨g', hg', j2⟩ := HC.out _ _ i2
      rw [hg] at hg'
      simp only [Option.some.injEq, Addr.mk.injEq, and_true] at hg'
      subst hg' hg
      have hglt : g < w.heap.size := World.block_lt_of_cell? w _ j0
      have c0 : wr.cell? ⟨g, k * 3, none⟩ = some (.int .i64 x.off) := (hb.cell (p := ⟨g, k * 3, none⟩) hglt).trans j0
      have c1 : wr.cell? ⟨g, k * 3 + 1, none⟩ = some (.int .i64 x.seg) := (hb.cell (p := ⟨g, k * 3 + 1, none⟩) hglt).trans j1
      have c2 : wr.cell? ⟨g, k * 3 + 2, none⟩ = some (.int .i64 x.pos) := (hb.cell (p := ⟨g, k * 3 + 2, none⟩) hglt).trans j2
      have hst : fromL off (l.take (k + 1)) = if x.off ≤ off then x.pos else fromL off (l.take k) := by
        rw [List.take_add_one, hx]; exact fromL_snoc _ _ _
      have HST := hid hst
      have hsz := hb.size
      clear hst i0 i1 i2 j0 j1 j2 hx
      by_cases ho : x.off ≤ off
      · go_wp2_with fail
        go_roundw
        case rel => exact ⟨k + 1, by omega, by go_num, by rw [HST.out, if_pos ho], hb.alloc hsz _⟩
        case measure => simp [intOf]; omega
      · go_wp2_with fail
        go_roundw
        case rel => exact ⟨k + 1, by omega, by go_num, by rw [HST.out, if_neg ho], hb.alloc hsz _⟩
        case measure => simp [intOf]; omega
    · obtain rfl : k = l.length := by omega
      have htk : l.take l.length = l := List.take_length
      have HTK := hid htk
      clear htk
      go_wp2_with fail
      go_ret
      exact ⟨by rw [HTK.out]; rfl, hb⟩

theorem bytesWorld_below (w : World) (e : TypeId) (s : ByteArray) : Below w.heap.size w (Lib.bytesWorld w e s) :=
  ⟨rfl, rfl, rfl, by rw [Lib.bytesWorld_size]; omega, fun k hk => Lib.bytesWorld_at_old w e s k hk⟩

theorem cut_name (nm f : List UInt8) (w : World) : Calls Tryz.prog 99 #[.string (bs f), .string (bs nm ++ ⟨#[46]⟩)] w fun e w' =>
    e = .returned (.tuple #[.string (bs (if (nm ++ [46]) <+: f then f.drop (nm.length + 1) else f)), .bool (decide ((nm ++ [46]) <+: f))]) ∧ w = w' := by
  refine (Tryz.strings_CutPrefix _ _ _).mono ?_
  rintro e w1 ⟨rfl, rfl⟩
  have e0 : (bs nm ++ (⟨#[46]⟩ : ByteArray)).data.toList = nm ++ [46] := by rw [show (⟨#[46]⟩ : ByteArray) = bs [46] from rfl, bs_append]; rfl
  have e1 : (bs f).data.toList = f := rfl
  rw [e0, e1]
  refine ⟨?_, rfl⟩
  have e2 : Lib.hasPrefix f (nm ++ [46]) = decide ((nm ++ [46]) <+: f) := by
    unfold Lib.hasPrefix
    rw [Bool.eq_iff_iff, List.isPrefixOf_iff_prefix]; simp
  unfold Lib.trimPrefix
  rw [e2]
  by_cases h : (nm ++ [46]) <+: f
  · simp only [h, decide_true, if_true]
    have e3 : (nm ++ [46]).length = nm.length + 1 := by simp
    rw [e3]; rfl
  · simp only [h, decide_false, if_false]; rfl

/-- What base answers. -/
def BasePost (nm f : List UInt8) (w : World) (e : Ending) (w' : World) : Prop :=
  Below w.heap.size w w' ∧ match segBase nm f with
    | some b => e = .returned (.tuple #[.int .i64 b, .bool true])
    | none => ∃ v : Int, e = .returned (.tuple #[.int .i64 v, .bool false])

theorem BasePost.no {nm f : List UInt8} {w w' : World} {e : Ending} (h : segBase nm f = none) (hb : Below w.heap.size w w') (v : Int) (he : e = .returned (.tuple #[.int .i64 v, .bool false])) : BasePost nm f w e w' := by
  refine ⟨hb, ?_⟩; rw [h]; exact ⟨v, he⟩
theorem BasePost.yes {nm f : List UInt8} {w w' : World} {e : Ending} {b : Int} (h : segBase nm f = some b) (hb : Below w.heap.size w w') (he : e = .returned (.tuple #[.int .i64 b, .bool true])) : BasePost nm f w e w' := by
  refine ⟨hb, ?_⟩; rw [h]; exact he

set_option maxHeartbeats 1000000 in
theorem base_any {w : World} {l : Nat} (nm f : List UInt8) (hn : w.cell? ⟨l, 1, none⟩ = some (.string (bs nm))) (hnl : nm.length ≤ 8) :
    Calls Tryz.prog 67 #[ptr l, .string (bs f)] w (BasePost nm f w) := by
  have hsz1 : (bs nm).size = nm.length := rfl
  have hsum1 : (bs nm).size + (⟨#[46]⟩ : ByteArray).size ≤ 9223372036854775807 := by rw [hsz1]; show nm.length + 1 ≤ _; omega
  unfold ptr
  by_cases hp : (nm ++ [46]) <+: f
  · by_cases h13 : (f.drop (nm.length + 1)).length = 13
    · have hd : (decide ((nm ++ [46]) <+: f)) = true := by simpa using hp
      obtain ⟨s, hs⟩ : ∃ s, s = f.drop (nm.length + 1) := ⟨_, rfl⟩
      have HS := hid hs
      have HP := hid hp
      have hc := cut_name nm f w
      rw [if_pos hp, ← hs, hd] at hc
      rw [← hs] at h13
      have hl13 : (bs s).size = 13 := h13
      have hne : ((13 : Int) != 13) = false := rfl
      clear hs hp hd
      have H13 := hid h13
      clear h13
      go_enter Tryz.func67, Tryz.ntmps67
      go_wp2_with fail
      refine hc.mono ?_
      rintro e w1 ⟨rfl, rfl⟩
      clear hc
      have hcv := Lib.run_convert_string_bytes (P := Tryz.prog) w 9 113 5 (bs s) (u := .string) Tryz.underlying9 Tryz.underlying113 Tryz.underlying5
      have hbw := bytesWorld_below w 5 (bs s)
      have hcl := Lib.bytesWorld_cell w 5 (bs s)
      generalize Lib.bytesWorld w 5 (bs s) = W at *
      generalize grownCap w (bs s).size 0 5 = cp at *
      rw [hl13] at hcv hcl
      have HBW := hid hbw
      have HCL := hid hcl
      clear hbw hcl
      go_wp2_with fail
      go_loopw [31, 8] (fun c n wr => ∃ k : Nat, k ≤ 13 ∧ c = .int .i64 k ∧ n = .int .i64 (numL (s.take k)) ∧ 0 ≤ numL (s.take k) ∧ numL (s.take k) < 10 ^ k ∧ (s.take k).all isDigit = true ∧ wr = W) (fun c _ _ => 13 - (intOf c).toNat)
      case atStart => exact ⟨0, by omega, rfl, rfl, by simp [numL], by simp [numL], rfl, rfl⟩
      case round =>
        obtain ⟨k, hk, rfl, rfl, hn0, hn1, hall, rfl⟩ := hrel
        have hseg : ∀ (P : Prop), segBase nm f = if s.all isDigit = true ∧ numL s ≤ 1099511627776 then some (numL s) else none := by
          intro _
          unfold segBase
          rw [← HS.out]
          by_cases h : s.all isDigit = true ∧ numL s ≤ 1099511627776
          · rw [if_pos h, if_pos ⟨HP.out, H13.out, h⟩]
          · rw [if_neg h, if_neg (fun h2 => h h2.2.2)]
        have HSEG := hid (hseg True)
        clear hseg
        by_cases hlt : k < 13
        · obtain ⟨c, hc⟩ : ∃ c, s[k]? = some c := ⟨_, List.getElem?_eq_getElem (by rw [H13.out]; exact hlt)⟩
          have hcell := HCL.out k hlt
          have e1 : (bs s).data.toList.getD k 0 = c := by show s.getD k 0 = c; rw [List.getD, hc]; rfl
          rw [e1] at hcell
          have hst : s.take (k + 1) = s.take k ++ [c] := by rw [List.take_add_one, hc]; rfl
          have hmem : c ∈ s := List.mem_of_getElem? hc
          have HST := hid hst
          have HALL := hid hall
          have hp : (10 : Int) ^ k ≤ 1000000000000 := by
            have h : ∀ i : Fin 13, (10 : Int) ^ i.val ≤ 1000000000000 := by decide
            exact h ⟨k, hlt⟩
          have HNX : Hid (48 ≤ c.toNat → numL (s.take (k + 1)) = 10 * numL (s.take k) + ((c.toNat : Int) - 48)) := hid (fun _ => by rw [hst, numL_snoc])
          have HBAD : Hid (¬ (48 ≤ c.toNat ∧ c.toNat ≤ 57) → segBase nm f = none) := hid (fun h => by
            rw [HSEG.out, if_neg]
            intro h2
            have := List.all_eq_true.1 h2.1 c hmem
            unfold isDigit at this
            exact h (by simpa using this))
          have HP1 := hid hn1
          have hb10 : 10 * numL (s.take k) ≤ 9999999999999 := by omega
          have hcb := c.toNat_lt
          clear e1 hc hst hall hn1 hp hmem
          generalize hcv2 : c.toNat = cn at *
          generalize numL (s.take k) = nk at *
          by_cases h48 : cn < 48
          · have hl : (cn : Int) < 48 := by omega
            go_wp2_with fail
            go_ret2
            exact .no (HBAD.out (by omega)) HBW.out _ rfl
          · have hl : ¬ (cn : Int) < 48 := by omega
            by_cases h57 : 57 < cn
            · have hl2 : (57 : Int) < cn := by omega
              go_wp2_with fail
              go_ret2
              exact .no (HBAD.out (by omega)) HBW.out _ rfl
            · have hl2 : ¬ (57 : Int) < cn := by omega
              go_wp2_with fail
              go_roundw
              case rel =>
                have hd : isDigit c = true := by unfold isDigit; simp; omega
                have hp10 : (10 : Int) ^ (k + 1) = 10 * 10 ^ k := by rw [Int.pow_succ]; omega
                have hp1 := HP1.out
                have hnx := HNX.out (by omega)
                refine ⟨k + 1, by omega, by go_num, by rw [hnx], by rw [hnx]; omega, by rw [hnx, hp10]; omega, ?_, trivial⟩
                rw [HST.out, List.all_append, HALL.out]; simp [hd]
              case measure => simp [intOf]; omega
        · obtain rfl : k = 13 := by omega
          have hst : s.take 13 = s := List.take_of_length_le (by rw [H13.out]; omega)
          rw [hst] at hall hn0 hn1 ⊢
          have HALL := hid hall
          clear hall hst
          by_cases hmx : numL s ≤ 1099511627776
          · go_wp2_with fail
            go_ret2
            exact .yes (by rw [HSEG.out, if_pos ⟨HALL.out, hmx⟩]) HBW.out rfl
          · have hmx2 : decide (numL s ≤ 1099511627776) = false := by simpa using hmx
            have HMX := hid hmx
            go_wp2_with fail
            go_ret2
            exact .no (by rw [HSEG.out, if_neg (fun h => by have h2 := h.2; have h3 := HMX.out; omega)]) HBW.out _ rfl
    · have HF : Hid (segBase nm f = none) := hid (by unfold segBase; rw [if_neg (fun h => h13 h.2.1)])
      have hd : (decide ((nm ++ [46]) <+: f)) = true := by simpa using hp
      have hc := cut_name nm f w
      rw [if_pos hp, hd] at hc
      obtain ⟨s, hs⟩ : ∃ s, s = f.drop (nm.length + 1) := ⟨_, rfl⟩
      rw [← hs] at hc h13
      have hl13 : ¬ (bs s).size = 13 := h13
      have hl14 : (((bs s).size : Int) != 13) = true := by simp; omega
      clear h13 hs hp hd
      go_enter Tryz.func67, Tryz.ntmps67
      go_wp2_with fail
      refine hc.mono ?_
      rintro e w1 ⟨rfl, rfl⟩
      clear hc
      go_wp2_with fail
      go_ret2
      exact .no HF.out (Below.refl _ _) _ rfl
  · have HF : Hid (segBase nm f = none) := hid (by unfold segBase; rw [if_neg (fun h => hp h.1)])
    have hd : (decide ((nm ++ [46]) <+: f)) = false := by simpa using hp
    have hc := cut_name nm f w
    rw [if_neg hp, hd] at hc
    clear hp hd
    go_enter Tryz.func67, Tryz.ntmps67
    go_wp2_with fail
    refine hc.mono ?_
    rintro e w1 ⟨rfl, rfl⟩
    clear hc
    go_wp2_with fail
    go_ret2
    exact .no HF.out (Below.refl _ _) _ rfl

end Go.Proofs.YtnibpknhpjcamaaGreatDoor
