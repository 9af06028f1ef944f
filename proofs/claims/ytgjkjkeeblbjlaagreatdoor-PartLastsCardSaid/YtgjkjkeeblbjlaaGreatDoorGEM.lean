/-
  seglog: named, from, base: the walks. Conditions: numbers and texts that fit.
  seglog: Append: the walk. Conditions: texts that fit.
  seglog: rows as slices, marks' cells. No conditions.
  A law for 'for .. := range f' that may be left by a break: what follows is met once. No conditions of our own.
  Regions that draw their order, in a round of a range over a function: one walk in the order of the text serves, where the operations only read. No conditions of our own.
  seglog: Fetch: the walk. Conditions: texts that fit.
  seglog: Append, whatever it is given.
  A disk that a log is appended to stays well formed. No conditions.
  What a call on a log leaves of other memory. No conditions.
-/
import Derived.Test.YtgjkjkeeblbjlaaGreatDoorGDM
import Derived.Lib.ConvBytes
import Derived.StillTailTactics
import Derived.Deep.RegionHeld3
import Derived.Laws.AppendOwnNone
import Derived.Test.YtgjkjkeeblbjlaaGreatDoorGBM
import Derived.Sort.QuietTacIn
import Derived.OwnWalkIn
import Derived.Maps.AppendAt
import Derived.Deep.CutRange
import Derived.Deep.DeepCutAuto
import Derived.BigQuiet
import Derived.Deep.QuietTactic
set_option maxRecDepth 100000
namespace Go.Proofs.YtgjkjkeeblbjlaaGreatDoor
open Go.RowKit

/-- Letters, digits. -/
def logByte (c : UInt8) : Bool := (97 ≤ c.toNat && c.toNat ≤ 122) || (48 ≤ c.toNat && c.toNat ≤ 57)
/-- May a log have that name? -/
def okLog (s : List UInt8) : Bool := !s.isEmpty && decide (s.length ≤ 8) && s.all logByte

def logSet : List UInt8 := [97, 98, 99, 100, 101, 102, 103, 104, 105, 106, 107, 108, 109, 110, 111, 112, 113, 114, 115, 116, 117, 118, 119, 120, 121, 122, 48, 49, 50, 51, 52, 53, 54, 55, 56, 57]

theorem logSet_byte : ∀ c : UInt8, logSet.contains c = logByte c := by
  intro c
  have h : ∀ i : Fin 256, logSet.contains (UInt8.ofNat i.val) = logByte (UInt8.ofNat i.val) := by decide +kernel
  have := h ⟨c.toNat, c.toNat_lt⟩
  simpa using this

theorem logSet_ascii : ∀ (j : Nat) (b : UInt8), logSet[j]? = some b → b.toNat < 128 := by
  intro j b h
  have hm := List.mem_of_getElem? h
  have : ∀ x ∈ logSet, x.toNat < 128 := by decide +kernel
  exact this b hm

set_option maxHeartbeats 400000 in
theorem logNamed_any (s : ByteArray) (w : World) (hs : s.size ≤ 140737488355328) :
    Calls Tryz.prog 64 #[.string s] w fun e w' => e = .returned (.bool (okLog (tl s))) ∧ Below w.heap.size w w' := by
  have hlen := tl_len s
  have HO : Hid (okLog (tl s) = (!(tl s).isEmpty && decide ((tl s).length ≤ 8) && (tl s).all logByte)) := hid rfl
  by_cases h0 : tl s = []
  · have hne : s.toList.isEmpty = true := by rw [toList_tl, h0]; rfl
    have HF : Hid (okLog (tl s) = false) := hid (by rw [HO.out, h0]; rfl)
    clear HO h0
    go_enter Tryz.func64, Tryz.ntmps64
    go_wp2_with fail
    go_ret
    exact ⟨by rw [HF.out]; rfl, Below.refl _ _⟩
  · have hne : s.toList.isEmpty = false := by rw [toList_tl]; simpa using h0
    by_cases h24 : s.size ≤ 8
    · by_cases hall : (tl s).all logByte = true
      · have HF : Hid (okLog (tl s) = true) := hid (by rw [HO.out, hall, hlen]; simp [h0, h24])
        have htr : Lib.trimS (tl s) logSet = [] := (trim_all _ _).2 (by rw [← hall]; congr 1; funext c; exact logSet_byte c)
        obtain ⟨r, hr, he⟩ : ∃ r : ByteArray, (⟨(Lib.trimS s.data.toList (bs logSet).data.toList).toArray⟩ : ByteArray) = r ∧ r.toList.isEmpty = true := ⟨_, rfl, by rw [toList_tl]; show (Lib.trimS (tl s) logSet).isEmpty = true; simpa using htr⟩
        clear HO htr hall h0
        go_enter Tryz.func64, Tryz.ntmps64
        go_wp2_with fail
        refine (Tryz.strings_Trim s (bs logSet) _ (by omega) (by decide) logSet_ascii).mono ?_
        rintro e w1 ⟨rfl, hb⟩
        rw [hr]
        go_wp2_with fail
        go_ret
        exact ⟨by rw [HF.out]; rfl, hb⟩
      · have HF : Hid (okLog (tl s) = false) := hid (by rw [HO.out]; simp [hall])
        have htr : ¬ Lib.trimS (tl s) logSet = [] := fun h => hall (by rw [← (trim_all _ _).1 h]; congr 1; funext c; exact (logSet_byte c).symm)
        obtain ⟨r, hr, he⟩ : ∃ r : ByteArray, (⟨(Lib.trimS s.data.toList (bs logSet).data.toList).toArray⟩ : ByteArray) = r ∧ r.toList.isEmpty = false := ⟨_, rfl, by rw [toList_tl]; show (Lib.trimS (tl s) logSet).isEmpty = false; simpa using htr⟩
        clear HO htr hall h0
        go_enter Tryz.func64, Tryz.ntmps64
        go_wp2_with fail
        refine (Tryz.strings_Trim s (bs logSet) _ (by omega) (by decide) logSet_ascii).mono ?_
        rintro e w1 ⟨rfl, hb⟩
        rw [hr]
        go_wp2_with fail
        go_ret
        exact ⟨by rw [HF.out]; rfl, hb⟩
    · have HF : Hid (okLog (tl s) = false) := hid (by rw [HO.out, hlen]; simp [h24])
      clear HO h0
      go_enter Tryz.func64, Tryz.ntmps64
      go_wp2_with fail
      go_ret
      exact ⟨by rw [HF.out]; rfl, Below.refl _ _⟩

/-- The place of the last mark that is not behind an offset. -/
def fromL (off : Int) (l : List PMark) : Int := l.foldl (fun at' m => if m.off ≤ off then m.pos else at') 0

theorem fromL_snoc (off : Int) (l : List PMark) (m : PMark) : fromL off (l ++ [m]) = if m.off ≤ off then m.pos else fromL off l := by
  unfold fromL; rw [List.foldl_append]; rfl

theorem markCells_at : ∀ (l : List PMark) (i : Nat) (x : PMark), l[i]? = some x → (markCells l)[i * 3]? = some (.int .i64 x.off) ∧ (markCells l)[i * 3 + 1]? = some (.int .i64 x.seg) ∧ (markCells l)[i * 3 + 2]? = some (.int .i64 x.pos)
  | [], i, x, h => by simp at h
  | y :: l, 0, x, h => by
    simp only [List.getElem?_cons_zero, Option.some.injEq] at h
    subst h
    exact ⟨rfl, rfl, rfl⟩
  | y :: l, i + 1, x, h => by
    simp only [List.getElem?_cons_succ] at h
    obtain ⟨h1, h2, h3⟩ := markCells_at l i x h
    have e1 : (i + 1) * 3 = i * 3 + 3 := by omega
    rw [e1]
    exact ⟨h1, h2, h3⟩

def FromRel (w : World) (off : Int) (l : List PMark) (c at' : Value) (wr : World) : Prop :=
  ∃ k : Nat, k ≤ l.length ∧ c = .int .i64 k ∧ at' = .int .i64 (fromL off (l.take k)) ∧ Below w.heap.size w wr

set_option maxHeartbeats 1000000 in
theorem from_any {w : World} (b n m off : Int) (mv : Value) (l : List PMark) (hr : Reads w mv l.length 3 (markCells l)) (hlen : l.length ≤ 1048576) :
    Calls Tryz.prog 74 #[.agg #[.int .i64 b, .int .i64 n, .int .i64 m, mv], .int .i64 off] w fun e w' => e = .returned (.int .i64 (fromL off l)) ∧ Below w.heap.size w w' := by
  obtain ⟨_, ad, cap, rfl, hc⟩ := hr
  have HC := hid hc
  clear hc
  go_enter Tryz.func74, Tryz.ntmps74
  go_wp2_with fail
  go_loopw [11, 5] (fun c a wr => FromRel w off l c a wr) (fun c _ _ => l.length - (intOf c).toNat)
  case atStart => exact ⟨0, by omega, rfl, rfl, (Below.refl _ _).alloc (Nat.le_refl _) _⟩
  case round =>
    obtain ⟨k, hk, rfl, rfl, hb⟩ := hrel
    by_cases hlt : k < l.length
    · obtain ⟨x, hx⟩ : ∃ x, l[k]? = some x := ⟨_, List.getElem?_eq_getElem hlt⟩
      obtain ⟨i0, i1, i2⟩ := markCells_at l k x hx
      obtain ⟨g, hg, j0⟩ := HC.out _ _ i0
      obtain ⟨g', hg', j1⟩ := HC.out _ _ i1
      rw [hg] at hg'
      simp only [Option.some.injEq, Addr.mk.injEq, and_true] at hg'
      subst hg'
      obtain ⟨g', hg', j2⟩ := HC.out _ _ i2
      rw [hg] at hg'
      simp only [Option.some.injEq, Addr.mk.injEq, and_true] at hg'
      subst hg' hg
      have hglt : g < w.heap.size := World.block_lt_of_cell? w _ j0
      have c0 : wr.cell? ⟨g, k * 3, none⟩ = some (.int .i64 x.off) := (hb.cell (p := ⟨g, k * 3, none⟩) hglt).trans j0
      have c1 : wr.cell? ⟨g, k * 3 + 1, none⟩ = some (.int .i64 x.seg) := (hb.cell (p := ⟨g, k * 3 + 1, none⟩) hglt).trans j1
      have c2 : wr.cell? ⟨g, k * 3 + 2, none⟩ = some (.int .i64 x.pos) := (hb.cell (p := ⟨g, k * 3 + 2, none⟩) hglt).trans j2
      have hst : fromL off (l.take (k + 1)) = if x.off ≤ off then x.pos else fromL off (l.take k) := by
        rw [List.take_add_one, hx]; exact fromL_snoc _ _ _
      have HST := hid hst
      have hsz := hb.size
      clear hst i0 i1 i2 j0 j1 j2 hx
      by_cases ho : x.off ≤ off
      · go_wp2_with fail
        go_roundw
        case rel => exact ⟨k + 1, by omega, by go_num, by rw [HST.out, if_pos ho], hb.alloc hsz _⟩
        case measure => simp [intOf]; omega
      · go_wp2_with fail
        go_roundw
        case rel => exact ⟨k + 1, by omega, by go_num, by rw [HST.out, if_neg ho], hb.alloc hsz _⟩
        case measure => simp [intOf]; omega
    · obtain rfl : k = l.length := by omega
      have htk : l.take l.length = l := List.take_length
      have HTK := hid htk
      clear htk
      go_wp2_with fail
      go_ret
      exact ⟨by rw [HTK.out]; rfl, hb⟩

theorem bytesWorld_below (w : World) (e : TypeId) (s : ByteArray) : Below w.heap.size w (Lib.bytesWorld w e s) :=
  ⟨rfl, rfl, rfl, by rw [Lib.bytesWorld_size]; omega, fun k hk => Lib.bytesWorld_at_old w e s k hk⟩

theorem cut_name (nm f : List UInt8) (w : World) : Calls Tryz.prog 99 #[.string (bs f), .string (bs nm ++ ⟨#[46]⟩)] w fun e w' =>
    e = .returned (.tuple #[.string (bs (if (nm ++ [46]) <+: f then f.drop (nm.length + 1) else f)), .bool (decide ((nm ++ [46]) <+: f))]) ∧ w = w' := by
  refine (Tryz.strings_CutPrefix _ _ _).mono ?_
  rintro e w1 ⟨rfl, rfl⟩
  have e0 : (bs nm ++ (⟨#[46]⟩ : ByteArray)).data.toList = nm ++ [46] := by rw [show (⟨#[46]⟩ : ByteArray) = bs [46] from rfl, bs_append]; rfl
  have e1 : (bs f).data.toList = f := rfl
  rw [e0, e1]
  refine ⟨?_, rfl⟩
  have e2 : Lib.hasPrefix f (nm ++ [46]) = decide ((nm ++ [46]) <+: f) := by
    unfold Lib.hasPrefix
    rw [Bool.eq_iff_iff, List.isPrefixOf_iff_prefix]; simp
  unfold Lib.trimPrefix
  rw [e2]
  by_cases h : (nm ++ [46]) <+: f
  · simp only [h, decide_true, if_true]
    have e3 : (nm ++ [46]).length = nm.length + 1 := by simp
    rw [e3]; rfl
  · simp only [h, decide_false, if_false]; rfl

/-- What base answers. -/
def BasePost (nm f : List UInt8) (w : World) (e : Ending) (w' : World) : Prop :=
  Below w.heap.size w w' ∧ match segBase nm f with
    | some b => e = .returned (.tuple #[.int .i64 b, .bool true])
    | none => ∃ v : Int, e = .returned (.tuple #[.int .i64 v, .bool false])

theorem BasePost.no {nm f : List UInt8} {w w' : World} {e : Ending} (h : segBase nm f = none) (hb : Below w.heap.size w w') (v : Int) (he : e = .returned (.tuple #[.int .i64 v, .bool false])) : BasePost nm f w e w' := by
  refine ⟨hb, ?_⟩; rw [h]; exact ⟨v, he⟩
theorem BasePost.yes {nm f : List UInt8} {w w' : World} {e : Ending} {b : Int} (h : segBase nm f = some b) (hb : Below w.heap.size w w') (he : e = .returned (.tuple #[.int .i64 b, .bool true])) : BasePost nm f w e w' := by
  refine ⟨hb, ?_⟩; rw [h]; exact he

set_option maxHeartbeats 1000000 in
theorem base_any {w : World} {l : Nat} (nm f : List UInt8) (hn : w.cell? ⟨l, 1, none⟩ = some (.string (bs nm))) (hnl : nm.length ≤ 8) :
    Calls Tryz.prog 67 #[ptr l, .string (bs f)] w (BasePost nm f w) := by
  have hsz1 : (bs nm).size = nm.length := rfl
  have hsum1 : (bs nm).size + (⟨#[46]⟩ : ByteArray).size ≤ 9223372036854775807 := by rw [hsz1]; show nm.length + 1 ≤ _; omega
  unfold ptr
  by_cases hp : (nm ++ [46]) <+: f
  · by_cases h13 : (f.drop (nm.length + 1)).length = 13
    · have hd : (decide ((nm ++ [46]) <+: f)) = true := by simpa using hp
      obtain ⟨s, hs⟩ : ∃ s, s = f.drop (nm.length + 1) := ⟨_, rfl⟩
      have HS := hid hs
      have HP := hid hp
      have hc := cut_name nm f w
      rw [if_pos hp, ← hs, hd] at hc
      rw [← hs] at h13
      have hl13 : (bs s).size = 13 := h13
      have hne : ((13 : Int) != 13) = false := rfl
      clear hs hp hd
      have H13 := hid h13
      clear h13
      go_enter Tryz.func67, Tryz.ntmps67
      go_wp2_with fail
      refine hc.mono ?_
      rintro e w1 ⟨rfl, rfl⟩
      clear hc
      have hcv := Lib.run_convert_string_bytes (P := Tryz.prog) w 9 164 5 (bs s) (u := .string) Tryz.underlying9 Tryz.underlying164 Tryz.underlying5
      have hbw := bytesWorld_below w 5 (bs s)
      have hcl := Lib.bytesWorld_cell w 5 (bs s)
      generalize Lib.bytesWorld w 5 (bs s) = W at *
      generalize grownCap w (bs s).size 0 5 = cp at *
      rw [hl13] at hcv hcl
      have HBW := hid hbw
      have HCL := hid hcl
      clear hbw hcl
      go_wp2_with fail
      go_loopw [31, 8] (fun c n wr => ∃ k : Nat, k ≤ 13 ∧ c = .int .i64 k ∧ n = .int .i64 (numL (s.take k)) ∧ 0 ≤ numL (s.take k) ∧ numL (s.take k) < 10 ^ k ∧ (s.take k).all isDigit = true ∧ wr = W) (fun c _ _ => 13 - (intOf c).toNat)
      case atStart => exact ⟨0, by omega, rfl, rfl, by simp [numL], by simp [numL], rfl, rfl⟩
      case round =>
        obtain ⟨k, hk, rfl, rfl, hn0, hn1, hall, rfl⟩ := hrel
        have hseg : ∀ (P : Prop), segBase nm f = if s.all isDigit = true ∧ numL s ≤ 1099511627776 then some (numL s) else none := by
          intro _
          unfold segBase
          rw [← HS.out]
          by_cases h : s.all isDigit = true ∧ numL s ≤ 1099511627776
          · rw [if_pos h, if_pos ⟨HP.out, H13.out, h⟩]
          · rw [if_neg h, if_neg (fun h2 => h h2.2.2)]
        have HSEG := hid (hseg True)
        clear hseg
        by_cases hlt : k < 13
        · obtain ⟨c, hc⟩ : ∃ c, s[k]? = some c := ⟨_, List.getElem?_eq_getElem (by rw [H13.out]; exact hlt)⟩
          have hcell := HCL.out k hlt
          have e1 : (bs s).data.toList.getD k 0 = c := by show s.getD k 0 = c; rw [List.getD, hc]; rfl
          rw [e1] at hcell
          have hst : s.take (k + 1) = s.take k ++ [c] := by rw [List.take_add_one, hc]; rfl
          have hmem : c ∈ s := List.mem_of_getElem? hc
          have HST := hid hst
          have HALL := hid hall
          have hp : (10 : Int) ^ k ≤ 1000000000000 := by
            have h : ∀ i : Fin 13, (10 : Int) ^ i.val ≤ 1000000000000 := by decide
            exact h ⟨k, hlt⟩
          have HNX : Hid (48 ≤ c.toNat → numL (s.take (k + 1)) = 10 * numL (s.take k) + ((c.toNat : Int) - 48)) := hid (fun _ => by rw [hst, numL_snoc])
          have HBAD : Hid (¬ (48 ≤ c.toNat ∧ c.toNat ≤ 57) → segBase nm f = none) := hid (fun h => by
            rw [HSEG.out, if_neg]
            intro h2
            have := List.all_eq_true.1 h2.1 c hmem
            unfold isDigit at this
            exact h (by simpa using this))
          have HP1 := hid hn1
          have hb10 : 10 * numL (s.take k) ≤ 9999999999999 := by omega
          have hcb := c.toNat_lt
          clear e1 hc hst hall hn1 hp hmem
          generalize hcv2 : c.toNat = cn at *
          generalize numL (s.take k) = nk at *
          by_cases h48 : cn < 48
          · have hl : (cn : Int) < 48 := by omega
            go_wp2_with fail
            go_ret2
            exact .no (HBAD.out (by omega)) HBW.out _ rfl
          · have hl : ¬ (cn : Int) < 48 := by omega
            by_cases h57 : 57 < cn
            · have hl2 : (57 : Int) < cn := by omega
              go_wp2_with fail
              go_ret2
              exact .no (HBAD.out (by omega)) HBW.out _ rfl
            · have hl2 : ¬ (57 : Int) < cn := by omega
              go_wp2_with fail
              go_roundw
              case rel =>
                have hd : isDigit c = true := by unfold isDigit; simp; omega
                have hp10 : (10 : Int) ^ (k + 1) = 10 * 10 ^ k := by rw [Int.pow_succ]; omega
                have hp1 := HP1.out
                have hnx := HNX.out (by omega)
                refine ⟨k + 1, by omega, by go_num, by rw [hnx], by rw [hnx]; omega, by rw [hnx, hp10]; omega, ?_, trivial⟩
                rw [HST.out, List.all_append, HALL.out]; simp [hd]
              case measure => simp [intOf]; omega
        · obtain rfl : k = 13 := by omega
          have hst : s.take 13 = s := List.take_of_length_le (by rw [H13.out]; omega)
          rw [hst] at hall hn0 hn1 ⊢
          have HALL := hid hall
          clear hall hst
          by_cases hmx : numL s ≤ 1099511627776
          · go_wp2_with fail
            go_ret2
            exact .yes (by rw [HSEG.out, if_pos ⟨HALL.out, hmx⟩]) HBW.out rfl
          · have hmx2 : decide (numL s ≤ 1099511627776) = false := by simpa using hmx
            have HMX := hid hmx
            go_wp2_with fail
            go_ret2
            exact .no (by rw [HSEG.out, if_neg (fun h => by have h2 := h.2; have h3 := HMX.out; omega)]) HBW.out _ rfl
    · have HF : Hid (segBase nm f = none) := hid (by unfold segBase; rw [if_neg (fun h => h13 h.2.1)])
      have hd : (decide ((nm ++ [46]) <+: f)) = true := by simpa using hp
      have hc := cut_name nm f w
      rw [if_pos hp, hd] at hc
      obtain ⟨s, hs⟩ : ∃ s, s = f.drop (nm.length + 1) := ⟨_, rfl⟩
      rw [← hs] at hc h13
      have hl13 : ¬ (bs s).size = 13 := h13
      have hl14 : (((bs s).size : Int) != 13) = true := by simp; omega
      clear h13 hs hp hd
      go_enter Tryz.func67, Tryz.ntmps67
      go_wp2_with fail
      refine hc.mono ?_
      rintro e w1 ⟨rfl, rfl⟩
      clear hc
      go_wp2_with fail
      go_ret2
      exact .no HF.out (Below.refl _ _) _ rfl
  · have HF : Hid (segBase nm f = none) := hid (by unfold segBase; rw [if_neg (fun h => hp h.1)])
    have hd : (decide ((nm ++ [46]) <+: f)) = false := by simpa using hp
    have hc := cut_name nm f w
    rw [if_neg hp, hd] at hc
    clear hp hd
    go_enter Tryz.func67, Tryz.ntmps67
    go_wp2_with fail
    refine hc.mono ?_
    rintro e w1 ⟨rfl, rfl⟩
    clear hc
    go_wp2_with fail
    go_ret2
    exact .no HF.out (Below.refl _ _) _ rfl

end Go.Proofs.YtgjkjkeeblbjlaaGreatDoor

namespace Go.Proofs.YtgjkjkeeblbjlaaGreatDoor
open Go.RowKit


/-- Where active points. -/
def ActPtr (L : PLog) (sv : Value) (p : Option Addr) : Prop :=
  (p = none ∧ L.act = none) ∨ ∃ (g cap : Nat) (a : List PSeg) (x : PSeg), p = some ⟨g, a.length * 4, none⟩ ∧ sv = .slice (some ⟨g, 0, none⟩) L.segs.length cap ∧ L.segs = a ++ [x] ∧ x.bytes < 1024 ∧ L.act = some x

theorem PLog.act_split {L : PLog} {x : PSeg} (h : L.act = some x) : ∃ a, L.segs = a ++ [x] ∧ x.bytes < 1024 := by
  unfold PLog.act at h
  cases hg : L.segs.getLast? with
  | none => rw [hg] at h; cases h
  | some y =>
    rw [hg] at h
    simp only at h
    split at h
    · rename_i hy
      cases h
      rw [List.getLast?_eq_some_iff] at hg
      obtain ⟨a, ha⟩ := hg
      exact ⟨a, ha, hy⟩
    · cases h

theorem active_any {w : World} {l d : Nat} {ms : List Value} {sv : Value} {L : PLog} (h : LogRep w l d ms sv L) (hlen : L.segs.length ≤ 1000000) :
    Calls Tryz.prog 92 #[ptr l] w fun e w' => (∃ p, e = .returned (.pointer p) ∧ ActPtr L sv p) ∧ w = w' := by
  cases ha : L.act with
  | none => exact (active_none h ha hlen).mono fun e w' ⟨he, hw⟩ => ⟨⟨none, he, .inl ⟨rfl, ha⟩⟩, hw⟩
  | some x =>
    obtain ⟨a, hs, hx⟩ := PLog.act_split ha
    obtain ⟨g, cap, hsv⟩ : ∃ g cap, sv = .slice (some ⟨g, 0, none⟩) L.segs.length cap := Joins.ownsRow_form h.segs (by rw [hs]; simp)
    subst hsv
    exact (active_some h hs hx hlen).mono fun e w' ⟨he, hw⟩ => ⟨⟨_, he, .inr ⟨g, cap, a, x, rfl, rfl, hs, hx, ha⟩⟩, hw⟩

theorem seg_notDisk {w : World} {b d : Nat} {SD : Nat → Prop} {D : PDisk} {c : Array Value} (h : Blk w b c 147) (hd : DiskAt w d SD D) : ¬ SD b :=
  SegBlk.notDisk ⟨_, _, h⟩ hd

theorem Tryz.infoSeg : (Tryz.prog.info? 147).map (fun i => (i.zero, i.size, i.bytes)) = some (some (.agg #[.int .i64 0, .int .i64 0, .int .i64 0, .slice none 0 0]), 4, 48) := by kernel_rfl

theorem PLog.sync_next (L : PLog) (D : PDisk) : (L.sync D).1.next = L.next ∧ (L.sync D).1.segs = L.segs ∧ (L.sync D).1.name = L.name := by
  unfold PLog.sync
  split
  · exact ⟨rfl, rfl, rfl⟩
  · split <;> exact ⟨rfl, rfl, rfl⟩

theorem PLog.sync_err (L : PLog) (D : PDisk) : (L.sync D).1.e = (L.sync D).2.2 := by
  unfold PLog.sync
  split
  · rfl
  · split
    · rfl
    · rfl

theorem PLog.sync_disk {L : PLog} {D : PDisk} {N : Int} (h : D.WF N) : (L.sync D).2.1.WF N := by
  unfold PLog.sync
  split
  · exact h
  · split
    · exact h
    · exact h.sync _

theorem PLog.WF.sync {L : PLog} (h : L.WF) (D : PDisk) : (L.sync D).1.WF := by
  obtain ⟨h1, h2, h3⟩ := L.sync_next D
  exact ⟨by rw [h3]; exact h.name, by rw [h2]; exact h.count, by rw [h2]; exact h.base, by rw [h2]; exact h.bytes, by rw [h2]; exact h.entries, by rw [h2]; exact h.marks, by rw [h1]; exact h.next⟩

set_option maxHeartbeats 8000000 in
theorem append_first {w : World} {l d : Nat} {S SD : Nat → Prop} {L : PLog} {D : PDisk} {N : Int} (iv : Value) (its : List PItem) (h : LogAt w l d S L) (hd : DiskAt w d SD D) (hw : D.WF N) (hwl : L.WF) (hit : Reads w iv its.length 2 (itemCells its)) (hne : its ≠ []) (he : L.e = 0) (hcnt : its.length ≤ 64) (htx : ∀ x ∈ its, x.text.length ≤ 1099511627776) :
    Calls Tryz.prog 58 #[ptr l, iv] w (AppPost w l d S SD (L.append D its)) := by
  obtain ⟨ie, hei, hez0, hez1, hez2⟩ := info_parts Tryz.infoEntry
  obtain ⟨ist, hsi, hst0, hst1, hst2⟩ := info_parts Tryz.infoStr
  obtain ⟨hil, ad, cap, rfl, hic⟩ := hit
  have HL := hid h
  have HD := hid hd
  obtain ⟨ms, sv, h, hS⟩ := h
  obtain ⟨c0, c1, c2, c3, c4, c5, c6⟩ := h.cells
  rw [he] at c6
  have hpos : 0 < its.length := List.length_pos_iff.2 hne
  have hnx := hwl.next
  have hllt := h.hdr.lt
  have HIC := hid hic
  have HTX := hid htx
  have HREP := hid h
  have HFOOT := hid hS
  have HNE := hid hne
  have HE := hid he
  clear hic htx hS h hd hne
  have hz0 : ((its.length : Int) == 0) = false := beq_eq_false_iff_ne.2 (by omega)
  have hz1 : decide ((its.length : Int) = 0) = false := decide_eq_false (by omega)
  unfold ptr
  go_enter Tryz.func58, Tryz.ntmps58
  go_upto_block 1 with fail
  go_cut [6, 7, 8] (fun ve vt nx wx => AppRel w.heap.size w L.next its (.int .i64 its.length) ve vt nx wx)
  case first =>
    --<
    go_wp2_with fail
    go_loopw [43, 6, 7, 8] (fun c ve vt nx wr => AppRel w.heap.size w L.next its c ve vt nx wr) (fun c _ _ _ _ => its.length - (intOf c).toNat)
    case atStart =>
      exact ⟨0, [], L.next, _, _, by omega, rfl, rfl, rfl, rfl, rfl, rfl, by simp, hnx.1, hnx.2, World.ownsRow_nil _ _ _ _, World.ownsRow_nil _ _ _ _, Below.refl _ _⟩
    case round =>
      obtain ⟨k, acc, n, v1, v2, hk, rfl, rfl, rfl, rfl, hal, hlay, hok, hn0, hn1, ho1, ho2, hb⟩ := hrel
      by_cases hlt : k < its.length
      · obtain ⟨x, hx⟩ : ∃ x, its[k]? = some x := ⟨_, List.getElem?_eq_getElem hlt⟩
        have hmem : x ∈ its := List.mem_of_getElem? hx
        have htxt := HTX.out x hmem
        obtain ⟨hi0, hi1⟩ := itemCells_at its k x hx
        obtain ⟨g, hg, k0⟩ := HIC.out _ _ hi0
        obtain ⟨g', hg', k1⟩ := HIC.out _ _ hi1
        rw [hg] at hg'
        simp only [Option.some.injEq, Addr.mk.injEq, and_true] at hg'
        subst hg' hg
        have hglt : g < w.heap.size := World.block_lt_of_cell? w _ k0
        have q0 : wr.cell? ⟨g, k * 2, none⟩ = some (.int .i64 x.n) := (hb.cell (p := ⟨g, k * 2, none⟩) hglt).trans k0
        have q1 : wr.cell? ⟨g, k * 2 + 1, none⟩ = some (.string (bs x.text)) := (hb.cell (p := ⟨g, k * 2 + 1, none⟩) hglt).trans k1
        have hdrop : its.drop k = x :: its.drop (k + 1) := by
          rw [List.drop_eq_getElem_cons hlt]
          rw [List.getElem?_eq_getElem hlt] at hx
          rw [Option.some.inj hx]
        rw [hdrop, layAll] at hlay
        have HLAY := hid hlay
        have HOK := hid hok
        have HAL := hid hal
        have hk0 : (0 : Int) ≤ (k : Int) := by omega
        have hk1 : (k : Int) < (its.length : Int) := by omega
        clear hlay hok hal hdrop hi0 hi1 k0 k1 hx
        go_wp2_with fail
        by_cases hx : (Ent.mk n x.n x.text).ok
        · have hx2 := hx
          obtain ⟨_, _, hx3, hx4, hx5⟩ := hx2
          simp only at hx3 hx4 hx5
          have HX := hid hx
          refine (lay_ok (Ent.mk n x.n x.text) _ hx).mono ?_
          rintro e w1 ⟨rfl, hb1⟩
          have hbx : Blk w1 wr.heap.size #[.int .i64 x.n, .string (bs x.text)] 129 := ((Blk.new wr _ _).alloc _).below' hb1
          have hbe : Blk w1 (wr.heap.size + 1) #[.int .i64 n, .int .i64 x.n, .string (bs x.text)] 103 := by
            have h := (Blk.new (wr.alloc (.cells #[.int .i64 x.n, .string (bs x.text)] 129)) #[.int .i64 n, .int .i64 x.n, .string (bs x.text)] 103).below' hb1
            simpa using h
          have ho1' : w1.ownsRow w.heap.size 103 3 v1 k (entCells acc) := own_bel ((ho1.alloc _).alloc _) hb1
          have ho2' : w1.ownsRow w.heap.size 9 1 v2 k (layCells acc) := own_bel ((ho2.alloc _).alloc _) hb1
          have hsz1 := hb1.size
          have hszb := hb.size
          simp at hsz1
          have hbw : Below w.heap.size w w1 := (bel_alloc (bel_alloc hb (.cells #[.int .i64 x.n, .string (bs x.text)] 129)) (.cells #[.int .i64 n, .int .i64 x.n, .string (bs x.text)] 103)).trans (hb1.mono (by simp; omega))
          obtain ⟨e0, e1, e2, _, _, _⟩ := hbe.c3
          have x0 := hbx.cell (i := 0) (v := .int .i64 x.n) rfl
          have x1 := hbx.cell (i := 1) (v := .string (bs x.text)) rfl
          have hv1 : v1.ownBlock ≠ some wr.heap.size := fun e => by have := (ho1.lt _ e).2; omega
          have hv2 : v2.ownBlock ≠ some wr.heap.size := fun e => by have := (ho2.lt _ e).2; omega
          have HV1 := hid hv1
          have HV2 := hid hv2
          have HO1 := hid ho1'
          have HO2 := hid ho2'
          have HBE := hid hbe
          have HBX := hid hbx
          clear ho1 ho2 ho1' ho2' hbe hbx hb1 hx q0 q1 hv1 hv2
          by_cases hmax : 1099511627776 - n < x.n
          · have HF : Hid (layAll L.next its [] = (6, [], 0)) := hid (by rw [HLAY.out, if_pos HX.out, if_pos hmax])
            go_wp2_with fail
            go_ret2
            rw [PLog.append_err HNE.out HE.out (by rw [HF.out]; decide), HF.out]
            exact ⟨rfl, .of_below HL.out HD.out hbw⟩
          · have HF : Hid (layAll L.next its [] = layAll (n + x.n) (its.drop (k + 1)) (acc ++ [⟨n, x.n, x.text⟩])) := hid (by rw [HLAY.out, if_pos HX.out, if_neg hmax])
            go_wp2_with (first
              | (at_builtin; refine wpList_append_own _ rfl _ _ 99 rfl w.heap.size 103 ie (.agg #[.int .i64 0, .int .i64 0, .string ⟨#[]⟩]) 3 32 Tryz.underlying99 hei hez0 hez1 hez2 rfl (by decide) _ _ _ rfl (HO1.out.alloc _) ⟨w1.heap.size, 0, none⟩ 1 1 [.int .i64 n, .int .i64 x.n, .string (bs x.text)] rfl rfl (cells_new _ _ _) (by simp [Value.oneCell']) (by unfold maxLen; omega) (by omega) (by simp; omega) ?_))
            intro v3 w2 hown3 hgrow _
            have hrow2 : w2.ownsRow w.heap.size 9 1 v2 k (layCells acc) := (HO2.out.alloc (.cells #[.int .i64 n, .int .i64 x.n, .string (bs x.text)] 103)).kept hgrow (rows_apart HO2.out HO1.out (by decide))
            have hbx2 := (HBX.out.alloc (.cells #[.int .i64 n, .int .i64 x.n, .string (bs x.text)] 103)).grown hgrow HV1.out
            have hsz2 := hgrow.size
            simp at hsz2
            have hbw2 : Below w.heap.size w w2 := bel_append (bel_alloc hbw (.cells #[.int .i64 n, .int .i64 x.n, .string (bs x.text)] 103)) (HO1.out.alloc _) (by simp; omega) hgrow
            have HO3 := hid hown3
            have HR2 := hid hrow2
            have HX2 := hid hbx2
            clear hown3 hrow2 hbx2 hgrow x0 x1 e0 e1 e2
            go_wp2_with (first
              | (at_builtin; refine wpList_append_own _ rfl _ _ 112 rfl w.heap.size 9 ist (.string ⟨#[]⟩) 1 16 Tryz.underlying112 hsi hst0 hst1 hst2 rfl (by decide) _ _ _ rfl (HR2.out.alloc _) ⟨w2.heap.size, 0, none⟩ 1 1 [.string (bs (Ent.mk n x.n x.text).lay)] rfl rfl (cells_new _ _ _) (by simp [Value.oneCell']) (by unfold maxLen; omega) (by omega) (by simp; omega) ?_))
            intro v4 w3 hown4 hgrow4 _
            have hrow3 : w3.ownsRow w.heap.size 103 3 v3 (k + 1) (entCells acc ++ [.int .i64 n, .int .i64 x.n, .string (bs x.text)]) := (HO3.out.alloc (.cells #[.string (bs (Ent.mk n x.n x.text).lay)] 9)).kept hgrow4 (rows_apart HO3.out HR2.out (by decide))
            have hbx3 := (HX2.out.alloc (.cells #[.string (bs (Ent.mk n x.n x.text).lay)] 9)).grown hgrow4 HV2.out
            have hbw3 : Below w.heap.size w w3 := bel_append (bel_alloc hbw2 (.cells #[.string (bs (Ent.mk n x.n x.text).lay)] 9)) (HR2.out.alloc _) (by simp; omega) hgrow4
            have x0 := hbx3.cell (i := 0) (v := .int .i64 x.n) rfl
            have HO4 := hid hown4
            have HR3 := hid hrow3
            clear hown4 hrow3 hbx3 hgrow4
            go_wp2_with fail
            go_roundw
            case rel =>
              refine ⟨k + 1, acc ++ [⟨n, x.n, x.text⟩], n + x.n, v3, v4, by omega, by go_num, rfl, rfl, rfl, by simp [HAL.out], HF.out, ?_, by omega, by omega, ?_, ?_, hbw3⟩
              · intro e he
                rcases List.mem_append.1 he with h | h
                · exact HOK.out e h
                · simp at h; rw [h]; exact HX.out
              · have : entCells (acc ++ [(⟨n, x.n, x.text⟩ : Ent)]) = entCells acc ++ [.int .i64 n, .int .i64 x.n, .string (bs x.text)] := by unfold entCells; rw [List.flatMap_append]; rfl
                rw [this]; exact HR3.out
              · have : layCells (acc ++ [(⟨n, x.n, x.text⟩ : Ent)]) = layCells acc ++ [.string (bs (Ent.mk n x.n x.text).lay)] := by unfold layCells; rw [List.map_append]; rfl
                rw [this]; exact HO4.out
            case measure => simp [intOf]; omega
        · have HF : Hid (layAll L.next its [] = (1, [], 0)) := hid (by rw [HLAY.out, if_neg hx])
          refine (lay_bad (Ent.mk n x.n x.text) _ hx).mono ?_
          rintro e w1 ⟨rfl, hb1⟩
          have hszb := hb.size
          have hbw : Below w.heap.size w w1 := (bel_alloc (bel_alloc hb (.cells #[.int .i64 x.n, .string (bs x.text)] 129)) (.cells #[.int .i64 n, .int .i64 x.n, .string (bs x.text)] 103)).trans (hb1.mono (by simp; omega))
          clear hx
          go_wp2_with fail
          go_ret2
          rw [PLog.append_err HNE.out HE.out (by rw [HF.out]; decide), HF.out]
          exact ⟨rfl, .of_below HL.out HD.out hbw⟩
      · have hkn : k = its.length := by omega
        have HREL := hid (show AppRel w.heap.size w L.next its (.int .i64 its.length) v1 v2 (.int .i64 n) wr from ⟨k, acc, n, v1, v2, hk, by rw [hkn], rfl, rfl, rfl, hal, hlay, hok, hn0, hn1, ho1, ho2, hb⟩)
        have HKN := hid hkn
        clear hal hlay hok ho1 ho2 hkn
        go_wp2_with fail
        go_meet
        exact HREL.out
    -->
  case rest =>
    rename World => wd
    obtain ⟨k, acc, n, v1, v2, hk, hkc, rfl, rfl, rfl, hal, hlay, hok, hn0, hn1, ho1, ho2, hb⟩ := hcut
    obtain ⟨eb, ecap, rfl⟩ := Joins.ownsRow_form ho1 (by simp only [Value.int.injEq, true_and] at hkc; omega)
    obtain ⟨tb, tcap, rfl⟩ := Joins.ownsRow_form ho2 (by simp only [Value.int.injEq, true_and] at hkc; omega)
    have hkl : k = its.length := by simp only [Value.int.injEq, true_and] at hkc; omega
    subst hkl
    rw [List.drop_length, layAll] at hlay
    have HAPP := hid (PLog.append_ok (D := D) HNE.out HE.out hlay)
    have HOK := hid hok
    have HAL := hid hal
    have HO1 := hid ho1
    have HO2 := hid ho2
    clear hlay hok hal ho1 ho2 hkc hk
    have hszw := hb.size
    have HB := hid hb
    have hrep := HREP.out.fr (Fr.of_below (S := fun _ => False) hb) (fun _ _ h => h)
    have hdc := HD.out.below hb
    obtain ⟨p0, p1, p2, p3, p4, p5, p6⟩ := hrep.cells
    obtain ⟨ad2, cap2, hsv, _⟩ := hrep.form
    have hcnt2 := hwl.count
    have HREPD := hid hrep
    have HDC := hid hdc
    clear hrep hdc hb c0 c1 c2 c3 c4 c5 c6
    go_upto_region 20 with fail
    go_wp2_with fail
    refine (active_any HREPD.out hcnt2).mono ?_
    rintro e w2 ⟨⟨p, rfl, hp⟩, rfl⟩
    have HP := hid hp
    clear hp
    go_upto_if 81 with fail
    go_cut [14] (fun xv wx => ∃ (L1 : PLog) (D1 : PDisk) (S1 SD1 : Nat → Prop) (xb xo : Nat) (s : PSeg) (before : List PSeg) (ms1 : List Value) (sv1 : Value), xv = .pointer (some ⟨xb, xo, none⟩) ∧ App2 w l d S SD L D N its acc n L1 D1 S1 SD1 xb xo s before ms1 sv1 wx ∧ L1.name = L.name ∧
      wx.ownsRow w.heap.size 103 3 (.slice (some ⟨eb, 0, none⟩) its.length ecap) its.length (entCells acc) ∧ wx.ownsRow w.heap.size 9 1 (.slice (some ⟨tb, 0, none⟩) its.length tcap) its.length (layCells acc))
    case first =>
      --<
      rcases HP.out with ⟨rfl, hact⟩ | ⟨g, cap3, a, x, rfl, hsv3, hs, hx, hact⟩
      · have HACT := hid hact
        clear hact
        cases hsg : L.segs with
        | nil =>
          have HSG := hid hsg
          have hln : L.segs.length = 0 := by rw [hsg]; rfl
          have hnz : L.next = L.next := rfl
          subst hsv
          rw [hln] at p2
          clear hsg hln hnz
          go_wp2_with fail
          go_meet
          have hbx := Blk.new wd #[.int .i64 L.next, .int .i64 0, .int .i64 0, .slice none 0 0] 147
          have hba := (Below.refl wd.heap.size wd).alloc (Nat.le_refl _) (.cells #[.int .i64 L.next, .int .i64 0, .int .i64 0, .slice none 0 0] 147)
          refine ⟨L, D, S, SD, wd.heap.size, 0, ⟨L.next, 0, 0, []⟩, L.segs, ms, _, rfl, ⟨HDC.out.below hba, hw, hwl, he, ?_, fun k hk => .inl hk, fun k hk => .inl hk, ?_, hnx, hbx.cell rfl, ⟨_, _, hbx⟩, HREPD.out.fr (Fr.of_below (S := fun _ => False) hba) (fun _ _ h => h), HFOOT.out, .inr ⟨rfl, HACT.out, rfl, rfl, hbx, ?_⟩⟩, rfl, HO1.out.alloc _, HO2.out.alloc _⟩
          · exact ((Fr.of_below HB.out).alloc _)
          · rw [HAPP.out]
            unfold PLog.appendE
            rw [HACT.out]
            simp only
            rw [if_pos HSG.out, HSG.out]
          · intro hs
            have := HL.out.lt hs
            omega
        | cons y r =>
          have HSG := hid hsg
          have hln : 0 < L.segs.length := by rw [hsg]; simp
          subst hsv
          clear hsg
          go_wp2_with fail
          refine (logSync_any (⟨_, _, HREPD.out, HFOOT.out⟩ : LogAt wd l d S L) HDC.out hw hwl).mono ?_
          rintro e w2 ⟨rfl, hto⟩
          have HTO := hid hto
          obtain ⟨S1, SD1, hl1, hd1, hf1, hs1, hsd1⟩ := hto
          have HL1 := hid hl1
          obtain ⟨ms1, sv1, hr1, hS1⟩ := hl1
          obtain ⟨q0, q1, q2, q3, q4, q5, q6⟩ := hr1.cells
          have hsz2 := hf1.size
          obtain ⟨g1, g2, g3⟩ := L.sync_next D
          have g4 := L.sync_err D
          have HAPP2 : Hid (L.appendE D acc n = if (L.sync D).2.2 ≠ 0 then ((L.sync D).1, (L.sync D).2.1, 0, (L.sync D).2.2) else (L.sync D).1.put (L.sync D).2.1 ⟨L.next, 0, 0, []⟩ L.segs acc n) := by
            refine hid ?_
            unfold PLog.appendE
            rw [HACT.out]
            simp only
            rw [if_neg (by rw [HSG.out]; simp)]
          have hdw := PLog.sync_disk (L := L) hw
          have hlw := hwl.sync D
          have hact2 : (L.sync D).1.act = none := by
            have := HACT.out
            unfold PLog.act at this ⊢
            rw [g2]; exact this
          generalize (L.sync D).1 = L1 at *
          generalize hee : (L.sync D).2.2 = e2 at *
          generalize (L.sync D).2.1 = D1 at *
          have HG := hid (And.intro g1 (And.intro g2 (And.intro g3 g4)))
          have HHH := hid (And.intro hd1 (And.intro hf1 (And.intro hs1 hsd1)))
          have HHS := hid (And.intro hS1 hr1)
          have HA2 := hid hact2
          have HEE := hid g4
          clear g2 g3 g4 hd1 hf1 hs1 hsd1 hact2 hS1 hr1 hee
          by_cases h0 : e2 = 0
          · have hz : (e2 == 0) = true := by simpa using h0
            have hz2 : (e2 != 0) = false := by simpa using h0
            rw [g1] at q4
            have H0 := hid h0
            clear h0
            go_wp2_with fail
            go_meet
            obtain ⟨a1, a2, a3, a4⟩ := HHH.out
            obtain ⟨b1, b2⟩ := HHS.out
            obtain ⟨c1, c2, c3, c4⟩ := HG.out
            have hlA : LogAt wd l d S L := ⟨_, _, HREPD.out, HFOOT.out⟩
            have ho1 := row_fr HO1.out a2 (fun j hj e => e.elim (row_log HO1.out hlA (by decide) (by decide) (by decide) j hj) (row_disk HO1.out HDC.out (by decide) (by decide) j hj))
            have ho2 := row_fr HO2.out a2 (fun j hj e => e.elim (row_log HO2.out hlA (by decide) (by decide) (by decide) j hj) (row_disk HO2.out HDC.out (by decide) (by decide) j hj))
            have hbx := Blk.new w2 #[.int .i64 L.next, .int .i64 0, .int .i64 0, .slice none 0 0] 147
            have hba := (Below.refl w2.heap.size w2).alloc (Nat.le_refl _) (.cells #[.int .i64 L.next, .int .i64 0, .int .i64 0, .slice none 0 0] 147)
            refine ⟨L1, D1, S1, SD1, w2.heap.size, 0, ⟨L.next, 0, 0, []⟩, L.segs, ms1, sv1, rfl, ⟨a1.below hba, hdw, hlw, c4.trans H0.out, ((Fr.of_below HB.out).trans a2).alloc _, fun k hk => (a3 k hk).imp id (by omega), fun k hk => (a4 k hk).imp id (by omega), ?_, hnx, hbx.cell rfl, ⟨_, _, hbx⟩, b2.fr (Fr.of_below (S := fun _ => False) hba) (fun _ _ h => h), b1, .inr ⟨c2.symm, HA2.out, by rw [c1], rfl, by rw [c1]; exact hbx, ?_⟩⟩, c3, ho1.alloc _, ho2.alloc _⟩
            · rw [HAPP.out, HAPP2.out, if_neg (fun h => h H0.out)]
            · intro hs
              have := HL1.out.lt hs
              omega
          · have hz : (e2 == 0) = false := by simpa using h0
            have hz2 : (e2 != 0) = true := by simpa using h0
            go_wp2_with fail
            go_ret2
            rw [HAPP.out, HAPP2.out, if_pos h0]
            obtain ⟨a1, a2, a3, a4⟩ := HHH.out
            refine ⟨rfl, S1, SD1, HL1.out, a1, (Fr.of_below HB.out).trans a2, fun k hk => (a3 k hk).imp id (by omega), fun k hk => (a4 k hk).imp id (by omega)⟩
      · have HACT := hid hact
        have HSS := hid hs
        have HSV := hid hsv3
        clear hact hs hsv hsv3
        have HXX := hid hx
        clear hx
        go_wp2_with fail
        go_meet
        have hnn : L.segs.length = a.length + 1 := by rw [HSS.out]; simp
        have hv : ∃ v, ms[a.length]? = some v := ⟨_, List.getElem?_eq_getElem (by rw [HREPD.out.len]; omega)⟩
        obtain ⟨v, hv⟩ := hv
        obtain ⟨ad3, cap4, he3, hat⟩ := HREPD.out.form
        obtain ⟨g', hg', b0, _⟩ := hat a.length x v (by rw [HSS.out]; simp) hv
        rw [HSV.out] at he3
        injection he3 with e1 e2 e3
        subst e1
        simp only [Option.some.injEq, Addr.mk.injEq, and_true] at hg'
        subst hg'
        have hsb : SegBlk wd g := by
          obtain ⟨c, fz, hc⟩ := Lib.ownsRow_kind HREPD.out.segs g (by rw [HSV.out]; rfl)
          exact ⟨c, fz, hc⟩
        refine ⟨L, D, S, SD, g, a.length * 4, x, a, ms, sv, rfl, ⟨HDC.out, hw, hwl, he, Fr.of_below HB.out, fun k hk => .inl hk, fun k hk => .inl hk, ?_, hwl.base x (by rw [HSS.out]; simp), b0, hsb, HREPD.out, HFOOT.out, .inl ⟨cap3, HSV.out, HSS.out, HXX.out, rfl⟩⟩, rfl, HO1.out, HO2.out⟩
        rw [HAPP.out]
        unfold PLog.appendE
        rw [HACT.out]
        simp only
        rw [HSS.out, List.dropLast_concat]
      -->
    case rest =>
      rename World => we
      obtain ⟨L1, D1, S1, SD1, xb, xo, s, before, ms1, sv1, rfl, h2, hnm, ho1, ho2⟩ := hcut
      have H2 := hid h2
      have HO1C := hid ho1
      have HO2C := hid ho2
      obtain ⟨p0, p1, p2, p3, p4, p5, p6⟩ := h2.rep.cells
      have hcx := h2.cell
      have hbase := h2.base
      rw [hnm] at p1
      have hname := hwl.name
      have hllt2 := h2.rep.hdr.lt
      have hxlt : xb < we.heap.size := World.block_lt_of_cell? we _ hcx
      have hdc := h2.disk
      have hnl : ¬ SD1 l := fun hs => LogAt.apart h2.at hdc ((h2.footL l).2 (.inl rfl)) hs
      have hnx1 : ¬ SD1 xb := h2.blk.notDisk hdc
      have hw1 := h2.dwf
      have HDC1 := hid hdc
      have hsl : (segName L.name s.base).length ≤ 1099511627776 := by unfold segName; simp [digs_len]; omega
      have htl : (layText acc).length ≤ 1099511627776 := by have := layText_len acc HOK.out; have := HAL.out; omega
      have hsz1 := h2.fr.size
      clear h2 ho1 ho2 hdc
      go_upto_region 27 with fail
      go_cut [16] (fun s16 wx => s16 = .int .i64 (D1.append (segName L.name s.base) (layText acc)).2 ∧ DiskTo we wx d SD1 (D1.append (segName L.name s.base) (layText acc)).1)
      case first =>
        --<
        go_region_held3 (fun w' => w'.cell? ⟨l, 0, none⟩ = some (.pointer (some ⟨d, 0, none⟩)) ∧ w'.cell? ⟨l, 1, none⟩ = some (.string (bs L.name)) ∧ w'.cell? ⟨xb, xo, none⟩ = some (.int .i64 s.base))
          (go_keep)
          ((first
            | (go_at_call 72; refine (file_any l L.name s.base _ ?_ (by omega) hbase.1 (by omega)).mono ?_; (go_simp); rintro e w2 ⟨rfl, hb2⟩; have d20 : w2.cell? ⟨l, 0, none⟩ = some (.pointer (some ⟨d, 0, none⟩)) := (hb2.cell (by (try simp); omega)).trans (by go_simp); have d21 : w2.cell? ⟨l, 1, none⟩ = some (.string (bs L.name)) := (hb2.cell (by (try simp); omega)).trans (by go_simp); have d22 : w2.cell? ⟨xb, xo, none⟩ = some (.int .i64 s.base) := (hb2.cell (by (try simp); omega)).trans (by go_simp); have hz2 := hb2.size; (try simp at hz2); have HB2 := hid (show Below we.heap.size we w2 from ⟨hb2.os, hb2.tape, hb2.output, hb2.size, hb2.block⟩))
            | (go_at_call 94; refine (join_any acc its.length HAL.out hpos (own_bel HO2C.out HB2.out) HOK.out hcnt).mono ?_; rintro e w3 ⟨rfl, hb3⟩; have d30 : w3.cell? ⟨l, 0, none⟩ = some (.pointer (some ⟨d, 0, none⟩)) := (hb3.cell (by (try simp); omega)).trans (by go_simp); have d31 : w3.cell? ⟨l, 1, none⟩ = some (.string (bs L.name)) := (hb3.cell (by (try simp); omega)).trans (by go_simp); have d32 : w3.cell? ⟨xb, xo, none⟩ = some (.int .i64 s.base) := (hb3.cell (by (try simp); omega)).trans (by go_simp); have hz3 := hb3.size; have HB3 := hid (bel_next HB2.out hb3))
            | (go_at_call 93; refine (append_any d SD1 D1 N _ _ _ (HDC1.out.below HB3.out) hw1 hsl htl).mono ?_; rintro e w4 ⟨rfl, hto4⟩; have HTO := hid (DiskTo.after HB3.out hto4); obtain ⟨SD2, hd1, hto, hsd1⟩ := hto4; have d40 : w4.cell? ⟨l, 0, none⟩ = some (.pointer (some ⟨d, 0, none⟩)) := (World.cell?_of_block (hto.block _ (by (try simp); omega) hnl)).trans (by assumption); have d41 : w4.cell? ⟨l, 1, none⟩ = some (.string (bs L.name)) := (World.cell?_of_block (hto.block _ (by (try simp); omega) hnl)).trans (by assumption); have d42 : w4.cell? ⟨xb, xo, none⟩ = some (.int .i64 s.base) := (World.cell?_of_block (hto.block _ (by (try simp); omega) hnx1)).trans (by assumption); have hz4 := hto.size; clear hd1 hto hsd1)))
        go_wp2_with fail
        go_meet
        exact ⟨rfl, HTO.out⟩
        -->
      case rest =>
        obtain ⟨rfl, hto⟩ := hcut
        have HPUT : Hid (L1.put D1 s before acc n = if (D1.append (segName L.name s.base) (layText acc)).2 = 5 then (L1, (D1.append (segName L.name s.base) (layText acc)).1, 0, 5) else if (D1.append (segName L.name s.base) (layText acc)).2 ≠ 0 then ({ L1 with e := (D1.append (segName L.name s.base) (layText acc)).2 }, (D1.append (segName L.name s.base) (layText acc)).1, 0, (D1.append (segName L.name s.base) (layText acc)).2)
            else ({ L1 with e := 0, segs := before ++ [s.tookAll acc], next := n }, (D1.append (segName L.name s.base) (layText acc)).1, headBase acc, 0)) := hid (by unfold PLog.put; rw [hnm])
        generalize (D1.append (segName L.name s.base) (layText acc)).2 = e2 at *
        generalize (D1.append (segName L.name s.base) (layText acc)).1 = D2 at *
        have HTO := hid hto
        obtain ⟨_, _, hrep3, _⟩ := H2.out.after hto
        obtain ⟨r0, r1, r2, r3, r4, r5, r6⟩ := hrep3.cells
        have t6 := hrep3.hdr.free 6
        have hllt3 := hrep3.hdr.lt
        clear hto hrep3 p0 p1 p2 p3 p4 p5 p6
        by_cases h5 : e2 = 5
        · have hz5 : (e2 == 5) = true := by simpa using h5
          have H5 := hid h5
          clear h5
          --<
          go_wp2_with fail
          go_ret2
          rw [H2.out.app, HPUT.out, if_pos H5.out]
          exact ⟨by rw [H5.out]; rfl, H2.out.to HTO.out⟩
          -->
        · have hz5 : (e2 == 5) = false := by simpa using h5
          have H5 := hid h5
          clear h5
          by_cases h0 : e2 = 0
          · subst h0
            go_upto_region 33 with fail
            obtain ⟨hr4, hlt4, SD4, hd4, hf4, hs4, hn4, hg4⟩ := H2.out.noted HTO.out 0
            have HPUT2 : Hid (L1.put D1 s before acc n = ({ L1 with e := 0, segs := before ++ [s.tookAll acc], next := n }, D2, headBase acc, 0)) := hid (by rw [HPUT.out, if_neg (by decide), if_neg (by decide)])
            generalize hW4 : wc.setCell ⟨l, 6, none⟩ (.int .i64 0) = W4 at *
            have HR4 := hid hr4
            have HD4 := hid hd4
            have HF4 := hid (And.intro hf4 (And.intro hs4 hn4))
            have HG4 := hid hg4
            have HW4 := hid hW4
            clear hr4 hlt4 hd4 hf4 hs4 hn4 hg4 hW4 r0 r1 r2 r3 r4 r5 r6 t6 hcx hsl htl H5 hz5
            have hcnt1 := H2.out.lwf.count
            go_wp2_with fail
            refine (active_any (L := { L1 with e := 0 }) HR4.out hcnt1).mono ?_
            rintro e w2 ⟨⟨p4, rfl, hp4⟩, rfl⟩
            have HP4 := hid hp4
            clear hp4
            go_upto_if 126 with fail
            go_cut [14] (fun xv wx => ∃ (L4 : PLog) (S4 SD4 : Nat → Prop) (sg cap : Nat) (s : PSeg) (a : List PSeg) (ma : List Value) (v : Value), xv = .pointer (some ⟨sg, a.length * 4, none⟩) ∧ App4 w l d S SD L D its acc n L4 D2 S4 SD4 sg cap s a ma v wx ∧
              wx.ownsRow w.heap.size 103 3 (.slice (some ⟨eb, 0, none⟩) its.length ecap) its.length (entCells acc) ∧ wx.ownsRow w.heap.size 9 1 (.slice (some ⟨tb, 0, none⟩) its.length tcap) its.length (layCells acc))
            case first =>
              have hq1 : W4.ownsRow w.heap.size 103 3 (.slice (some ⟨eb, 0, none⟩) its.length ecap) its.length (entCells acc) := row_fr HO1C.out HG4.out (fun j hj e => e.elim (row_disk HO1C.out H2.out.disk (by decide) (by decide) j hj) (fun e => row_log HO1C.out H2.out.at (by decide) (by decide) (by decide) j hj ((H2.out.footL j).2 (.inl e))))
              have hq2 : W4.ownsRow w.heap.size 9 1 (.slice (some ⟨tb, 0, none⟩) its.length tcap) its.length (layCells acc) := row_fr HO2C.out HG4.out (fun j hj e => e.elim (row_disk HO2C.out H2.out.disk (by decide) (by decide) j hj) (fun e => row_log HO2C.out H2.out.at (by decide) (by decide) (by decide) j hj ((H2.out.footL j).2 (.inl e))))
              have HQ1 := hid hq1
              have HQ2 := hid hq2
              clear hq1 hq2
              --<
              rcases H2.out.way with ⟨cap5, hsv5, hs5, hx5, rfl⟩ | ⟨hbf, hact5, hs5, rfl, hbx5, hns5⟩
              · rcases HP4.out with ⟨rfl, hact⟩ | ⟨g, cap6, a6, x6, rfl, hsv6, hs6, hx6, hact⟩
                · exfalso
                  have := PLog.act_of (L := { L1 with e := 0 }) hs5 hx5
                  rw [hact] at this
                  cases this
                · have HS5 := hid (And.intro hsv5 (And.intro hs5 hx5))
                  clear hsv5 hs5 hx5 hsv6 hs6 hx6 hact
                  go_wp2_with fail
                  go_meet
                  obtain ⟨hsv5, hs5, hx5⟩ := HS5.out
                  obtain ⟨hf4, hs4, hn4⟩ := HF4.out
                  subst hsv5
                  obtain ⟨ma, v, hms, hma⟩ := LogRep.ms_split HR4.out (show ({ L1 with e := 0 } : PLog).segs = before ++ [s] from hs5)
                  have hlen : L1.segs.length = before.length + 1 := by rw [hs5]; simp
                  have hrr := HR4.out
                  rw [hlen, hms] at hrr
                  have hmem : s ∈ L1.segs := by rw [hs5]; simp
                  refine ⟨{ L1 with e := 0 }, S1, SD4, xb, cap5, s, before, ma, v, rfl, ⟨HD4.out, hf4, H2.out.foot, hs4, ?_, hrr, ?_, hs5, hma, by omega, ⟨(H2.out.lwf.bytes s hmem).1, by omega⟩, H2.out.lwf.entries s hmem, ?_⟩, HQ1.out, HQ2.out⟩
                  · rw [H2.out.app, HPUT2.out]
                  · intro k; rw [← hms, ← hlen]; exact H2.out.footL k
                  · exact H2.out.lwf.marks s hmem
              · rcases HP4.out with ⟨rfl, hact⟩ | ⟨g, cap6, a6, x6, rfl, hsv6, hs6, hx6, hact⟩
                · obtain ⟨i0, hi, hz0', hz1', hz2'⟩ := info_parts Tryz.infoSeg
                  have hS1l : S1 l := (H2.out.footL l).2 (.inl rfl)
                  have hxl : xb ≠ l := fun e => hns5 (e ▸ hS1l)
                  have hbx : Blk W4 xb #[.int .i64 L1.next, .int .i64 0, .int .i64 0, .slice none 0 0] 147 := hbx5.fr HG4.out (fun e => e.elim hnx1 hxl)
                  have y0 := hbx.cell (i := 0) rfl
                  have y1 := hbx.cell (i := 1) rfl
                  have y2 := hbx.cell (i := 2) rfl
                  have y3 := hbx.cell (i := 3) rfl
                  obtain ⟨_, _, s2, _⟩ := HR4.out.cells
                  obtain ⟨ad7, cap7, hsv7, _⟩ := HR4.out.form
                  have hk7 : ({ L1 with e := 0 } : PLog).segs.length = L1.segs.length := rfl
                  rw [hk7] at hsv7
                  subst hsv7
                  have hl4 := HR4.out.hdr.lt
                  have f2 := HR4.out.hdr.free 2
                  have hx4 := hbx.lt
                  have HHB := hid (And.intro hbf (And.intro hs5 hbx))
                  have HL4 := hid hS1l
                  clear hbf hs5 hbx hbx5 hact hact5 hS1l
                  go_upto_region 34 with fail
                  have HNX : Hid ((W4.drew.alloc (.cells #[.int .i64 L1.next, .int .i64 0, .int .i64 0, .slice none 0 0] 147)).heap[W4.heap.size]? = some (.cells #[.int .i64 L1.next, .int .i64 0, .int .i64 0, .slice none 0 0] 147)) := hid (heap_alloc_new W4.drew (.cells #[.int .i64 L1.next, .int .i64 0, .int .i64 0, .slice none 0 0] 147))
                  have HRX := hid (HR4.out.fr (S := fun _ => False) (((Fr.refl _ W4).drew).alloc (.cells #[.int .i64 L1.next, .int .i64 0, .int .i64 0, .slice none 0 0] 147)) (fun _ _ h => h))
                  go_cut [14] (fun xv wx => xv = .pointer (some ⟨xb, 0, none⟩) ∧ ∃ gg cap8 w3, wx = w3.setCell ⟨l, 2, none⟩ (.slice (some ⟨gg, 0, none⟩) (L1.segs.length + 1) cap8) ∧
                    w3.ownsRow 0 147 4 (.slice (some ⟨gg, 0, none⟩) (L1.segs.length + 1) cap8) (L1.segs.length + 1) (segCells L1.segs ms1 ++ [.int .i64 L1.next, .int .i64 0, .int .i64 0, .slice none 0 0]) ∧
                    (W4.drew.alloc (.cells #[.int .i64 L1.next, .int .i64 0, .int .i64 0, .slice none 0 0] 147)).grownBy w3 (Value.slice ad7 L1.segs.length cap7).ownBlock ∧ ((Value.slice ad7 L1.segs.length cap7).ownBlock = some gg ∨ gg = W4.heap.size + 1))
                  case first =>
                    go_region_law ((refine step_append_lies _ (by rfl) _ _ _ (by rfl) 0 147 i0 _ 4 48 Tryz.underlying120 hi hz0' hz1' hz2' rfl (by omega) (.slice ad7 L1.segs.length cap7) L1.segs.length _ (by rfl) HRX.out.segs ⟨W4.heap.size, 0, none⟩ 1 1 [.int .i64 L1.next, .int .i64 0, .int .i64 0, .slice none 0 0] (by rfl) (by rfl) (World.news_of_block (cs := #[.int .i64 L1.next, .int .i64 0, .int .i64 0, .slice none 0 0]) (t := 147) (fr := (0, 0)) HNX.out) (by simp [Value.oneCell']) (by omega) (by unfold maxLen; omega) (by omega) (Nat.zero_le _) (W4.heap.size + 1) (by simp) ?_; intro gg cap2 w3 hown3 hgrow hat hlt3; have hB3 := hid (HRX.out.hdr.grown hgrow (show (Value.slice ad7 L1.segs.length cap7).ownBlock ≠ some l from fun e => by obtain ⟨c, fz, hc⟩ := Lib.ownsRow_kind HRX.out.segs l e; have h9 := HRX.out.hdr; unfold Blk at h9; rw [h9] at hc; cases hc)); have d3 := hB3.out.cell (i := 2) rfl; have k3 := hB3.out.free 2; have HO3 := hid hown3; have HG3 := hid hgrow; have HA3 := hid hat; clear hown3 hgrow hat))
                    all_goals (go_wp2_with fail; go_meet; exact ⟨rfl, _, _, _, rfl, HO3.out, HG3.out, HA3.out⟩)
                  case rest =>
                    obtain ⟨rfl, gg, cap8, w3, rfl, hown3, hgrow, hat⟩ := hcut
                    have hpush := HRX.out.push hgrow (b := L1.next) hown3 (hat.imp id (fun e => by simp; omega))
                    have hgs : S1 l := HL4.out
                    have hfa : Fr S1 W4 (w3.setCell ⟨l, 2, none⟩ (.slice (some ⟨gg, 0, none⟩) (L1.segs.length + 1) cap8)) := by
                      have ha : Fr S1 W4 (W4.drew.alloc (.cells #[.int .i64 L1.next, .int .i64 0, .int .i64 0, .slice none 0 0] 147)) := ((Fr.refl _ W4).drew).alloc _
                      have hg3 : Fr S1 W4 w3 := ⟨hgrow.os.trans ha.os, hgrow.tape.trans ha.tape, hgrow.output.trans ha.output, Nat.le_trans ha.size hgrow.size, fun j hj hn => (hgrow.block j (Nat.lt_of_lt_of_le hj ha.size) (fun e => hn ((H2.out.footL j).2 (.inr (.inl e.symm))))).trans (ha.block j hj hn)⟩
                      exact Fr.setCell (p := ⟨l, 2, none⟩) hg3 (.inl hgs) _
                    obtain ⟨_, _, s2', _⟩ := hpush.cells
                    have hq1 := row_fr HQ1.out hfa (fun j hj e => row_log HQ1.out (⟨_, _, HR4.out, H2.out.footL⟩ : LogAt W4 l d S1 _) (by decide) (by decide) (by decide) j hj e)
                    have hq2 := row_fr HQ2.out hfa (fun j hj e => row_log HQ2.out (⟨_, _, HR4.out, H2.out.footL⟩ : LogAt W4 l d S1 _) (by decide) (by decide) (by decide) j hj e)
                    generalize hWf : w3.setCell ⟨l, 2, none⟩ (.slice (some ⟨gg, 0, none⟩) (L1.segs.length + 1) cap8) = Wf at *
                    have HPU := hid hpush
                    have HFA := hid hfa
                    have HQA := hid (And.intro hq1 hq2)
                    have HAT := hid hat
                    have hiw : IntKind.i64.wrap (L1.segs.length : Int) = L1.segs.length := IntWalk.i64_in _ (by omega)
                    have hj0 : (0 : Int) ≤ (L1.segs.length : Int) := by omega
                    have hj1 : (L1.segs.length : Int) < (L1.segs.length : Int) + 1 := by omega
                    clear hpush hfa hq1 hq2 hat hgrow hown3 hWf s2 f2 y0 y1 y2 y3
                    go_wp2_with fail
                    go_quiet (fail)
                    go_wp2_with fail
                    go_meet
                    obtain ⟨hbf, hs5, hbx⟩ := HHB.out
                    obtain ⟨hf4, hs4, hn4⟩ := HF4.out
                    have hfd := HFA.out.drewN nq
                    have hrr := HPU.out.fr (S := fun _ => False) ((Fr.refl _ Wf).drewN nq) (fun _ _ h => h)
                    have hf5 : Fr (fun k => S k ∨ SD k) w (Wf.drewN nq) := ⟨hfd.os.trans hf4.os, hfd.tape.trans hf4.tape, hfd.output.trans hf4.output, Nat.le_trans hf4.size hfd.size, fun k hk hn => (hfd.block k (Nat.lt_of_lt_of_le hk hf4.size) (fun e => (H2.out.foot k e).elim (fun e => hn (.inl e)) (by omega))).trans (hf4.block k hk hn)⟩
                    have hsz4 := hf4.size
                    refine ⟨{ L1 with e := 0, segs := L1.segs ++ [⟨L1.next, 0, 0, []⟩] }, footL l (ms1 ++ [.slice none 0 0]) (.slice (some ⟨gg, 0, none⟩) (L1.segs.length + 1) cap8), SD4, gg, cap8, ⟨L1.next, 0, 0, []⟩, L1.segs, ms1, .slice none 0 0, rfl, ⟨HD4.out.fr hfd (fun k hk e => hn4 k hk e), hf5, ?_, hs4, ?_, hrr, fun _ => Iff.rfl, rfl, H2.out.rep.len, hcnt1, by simp, by simp, by simp, by simp⟩, HQA.out.1, HQA.out.2⟩
                    · intro k hk
                      rcases hk with rfl | hk | ⟨v, hv, hk⟩
                      · exact H2.out.foot _ HL4.out
                      · simp only [Value.ownBlock, Option.some.injEq] at hk
                        subst hk
                        rcases HAT.out with e | e
                        · exact H2.out.foot _ ((H2.out.footL gg).2 (.inr (.inl e)))
                        · exact .inr (by omega)
                      · rcases List.mem_append.1 hv with hv | hv
                        · exact H2.out.foot _ ((H2.out.footL k).2 (.inr (.inr ⟨v, hv, hk⟩)))
                        · simp only [List.mem_singleton] at hv
                          subst hv
                          cases hk
                    · rw [H2.out.app, HPUT2.out, hbf, hs5]
                · exfalso
                  have := PLog.act_of (L := L1) hs6 hx6
                  rw [hact5] at this
                  cases this
              -->
            case rest =>
              rename World => W0
              obtain ⟨L4, S4, SD4', sg, cap4, sx, a, ma, v, rfl, h4, ho1, ho2⟩ := hcut
              obtain ⟨cs0, hseg⟩ := LogRep.segAt h4.rep h4.segs h4.len
              have H4 := hid h4
              have hb0 := h4.bytes
              have he0 := h4.entries
              have hm0 := h4.marks.1
              have HM0 := hid h4.marks.2
              have halen := HAL.out
              have hHL4 : LogAt W0 l d S4 L4 := ⟨_, _, h4.rep, h4.footL⟩
              have hz := h4.fr.size
              have HQ1 := hid ho1
              have HQ2 := hid ho2
              have HL4 := hid hHL4
              have HSEG := hid hseg
              have hr1 := HQ1.out
              clear h4 ho1 ho2 hseg hHL4 hr1
              go_wp2_with fail
              go_loopw [152] (fun c wr => TookRel W0 sg (a.length * 4) cs0 sx v acc c wr) (fun c _ => acc.length - (intOf c).toNat)
              case atStart => exact ⟨0, v, cs0, by omega, rfl, HSEG.out, .inl rfl, Fr.refl _ _⟩
              case round =>
                obtain ⟨k, mv, cs, hk, rfl, hsg, hmo, hfr⟩ := hrel
                have hap : ∀ j, (j = sg ∨ v.ownBlock = some j) → S4 j := by
                  rintro j (rfl | e)
                  · exact (H4.out.footL j).2 (.inr (.inl rfl))
                  · exact (H4.out.footL j).2 (.inr (.inr ⟨v, by simp, e⟩))
                have hq1 := row_fr HQ1.out hfr (fun j hj e => row_log HQ1.out HL4.out (by decide) (by decide) (by decide) j hj (hap j e))
                have hq2 := row_fr HQ2.out hfr (fun j hj e => row_log HQ2.out HL4.out (by decide) (by decide) (by decide) j hj (hap j e))
                have hszr := hfr.size
                by_cases hlt : k < acc.length
                · obtain ⟨x, hx⟩ : ∃ x, acc[k]? = some x := ⟨_, List.getElem?_eq_getElem hlt⟩
                  obtain ⟨i0, i1, i2⟩ := entCells_at acc k x hx
                  have c0 : wr.cell? ⟨eb, k * 3, none⟩ = some (.int .i64 x.base) := (hq1.cellAt (k * 3) (by omega)).trans i0
                  have c1 : wr.cell? ⟨eb, k * 3 + 1, none⟩ = some (.int .i64 x.n) := (hq1.cellAt (k * 3 + 1) (by omega)).trans i1
                  have c2 : wr.cell? ⟨eb, k * 3 + 2, none⟩ = some (.string (bs x.text)) := (hq1.cellAt (k * 3 + 2) (by omega)).trans i2
                  have t0 : wr.cell? ⟨tb, k, none⟩ = some (.string (bs x.lay)) := by
                    rw [hq2.cellAt k (by omega)]
                    unfold layCells
                    rw [List.getElem?_map, hx]; rfl
                  have htblt : tb < wr.heap.size := World.block_lt_of_cell? wr _ t0
                  have hxok := HOK.out x (List.mem_of_getElem? hx)
                  have hxl := Ent.lay_len x hxok
                  have hnum := tookAll_num sx (acc.take k) (fun e he => HOK.out e (List.mem_of_mem_take he)) hb0.1 HM0.out
                  rw [List.length_take, Nat.min_eq_left (by omega)] at hnum
                  have hstep : sx.tookAll (acc.take (k + 1)) = (sx.tookAll (acc.take k)).took x.base x.lay.length := by
                    rw [List.take_add_one, hx]; exact tookAll_snoc _ _ _
                  obtain ⟨n1, n2, n3, n4, n5, n6⟩ := hnum
                  have HN6 := hid n6
                  have HST := hid hstep
                  have HSG := hid hsg
                  have HMO := hid hmo
                  have HFR := hid hfr
                  have HXK := hid hxok
                  have hsz2 : (bs x.lay).size = x.lay.length := rfl
                  have HQ2R := hid hq2
                  clear hq1 hq2 hx i0 i1 i2 hxok n1 n6 hstep hsg hmo hfr hap
                  go_wp2_with fail
                  have hbox := Blk.new wr #[.int .i64 x.base, .int .i64 x.n, .string (bs x.text)] 103
                  obtain ⟨z0, z1, z2, _⟩ := hbox.c3
                  have HBOX := hid hbox
                  have hnbox : ¬ (wr.heap.size = sg ∨ mv.ownBlock = some wr.heap.size) := by
                    rintro (e | e)
                    · have := HSG.out.blk.lt; omega
                    · have := (HSG.out.marks.lt _ e).2; omega
                  have hntb : ¬ (tb = sg ∨ mv.ownBlock = some tb) := by
                    have hkt : ∃ c fz, wr.heap[tb]? = some (.cells c 9 fz) := Lib.ownsRow_kind HQ2R.out tb rfl
                    obtain ⟨c, fz, hc⟩ := hkt
                    rintro (e | e)
                    · have := HSG.out.blk
                      unfold Blk at this
                      rw [← e, hc] at this
                      cases this
                    · obtain ⟨c', fz', hc'⟩ := Lib.ownsRow_kind HSG.out.marks tb e
                      rw [hc] at hc'
                      cases hc'
                  clear hbox
                  go_region_held3 (fun w' => w'.cell? ⟨wr.heap.size, 0, none⟩ = some (.int .i64 x.base) ∧ w'.cell? ⟨wr.heap.size, 1, none⟩ = some (.int .i64 x.n) ∧ w'.cell? ⟨wr.heap.size, 2, none⟩ = some (.string (bs x.text)) ∧ w'.cell? ⟨tb, k, none⟩ = some (.string (bs x.lay)))
                    (go_keep)
                    ((go_at_call 95; refine (took_seg (HSG.out.fr (S := fun _ => False) (((Fr.refl _ wr).alloc _).drew) (fun h => h) (fun _ _ h => h)) x.base x.n _ _ (by omega) (by omega) (by omega) (by omega) (by omega) (by omega) (fun y hy => by have := HN6.out y hy; omega)).mono ?_; rintro e w2 ⟨rfl, mv2, cs2, hs2, ho2, hf2⟩; have HS2 := hid hs2; have HO2 := hid ho2; have HF2 := hid hf2; have e0 : w2.cell? ⟨wr.heap.size, 0, none⟩ = some (.int .i64 x.base) := (World.cell?_of_block (hf2.block _ (by simp) hnbox)).trans (by go_simp); have e1 : w2.cell? ⟨wr.heap.size, 1, none⟩ = some (.int .i64 x.n) := (World.cell?_of_block (hf2.block _ (by simp) hnbox)).trans (by go_simp); have e2 : w2.cell? ⟨wr.heap.size, 2, none⟩ = some (.string (bs x.text)) := (World.cell?_of_block (hf2.block _ (by simp) hnbox)).trans (by go_simp); have e3 : w2.cell? ⟨tb, k, none⟩ = some (.string (bs x.lay)) := (World.cell?_of_block (hf2.block _ (by simp; omega) hntb)).trans (by go_simp); clear hs2 ho2 hf2))
                  go_wp2_with fail
                  go_roundw
                  case rel =>
                    refine ⟨k + 1, mv2, cs2, by omega, by go_num, ?_, ?_, ?_⟩
                    · rw [HST.out]; exact HS2.out
                    · rcases HO2.out with e | ⟨b, e, hb⟩
                      · rw [e]; exact HMO.out
                      · exact .inr ⟨b, e, by simp at hb; omega⟩
                    · have hfx := ((HFR.out.alloc (.cells #[.int .i64 x.base, .int .i64 x.n, .string (bs x.text)] 103)).drew)
                      have hf2 := HF2.out
                      refine ⟨hf2.os.trans hfx.os, hf2.tape.trans hfx.tape, hf2.output.trans hfx.output, Nat.le_trans hfx.size hf2.size, fun j hj hn => (hf2.block j (Nat.lt_of_lt_of_le hj hfx.size) (fun e => ?_)).trans (hfx.block j hj hn)⟩
                      rcases e with e | e
                      · exact hn (.inl e)
                      · rcases HMO.out with e2 | ⟨b, e2, hb⟩
                        · exact hn (.inr (e2.symm.trans e))
                        · rw [e] at e2
                          injection e2 with e2
                          omega
                  case measure => simp [intOf]; omega
                · obtain rfl : k = its.length := by omega
                  rw [List.take_of_length_le (by omega)] at hsg
                  have hrt := LogRep.retake H4.out.rep H4.out.segs H4.out.len HSEG.out hsg hmo hfr
                  obtain ⟨q0, q1, q2, q3, q4, q5, q6⟩ := hrt.cells
                  have k4 := hrt.hdr.free 4
                  have hl4 := hrt.hdr.lt
                  obtain ⟨e0, er, hacc⟩ : ∃ e0 er, acc = e0 :: er := by
                    cases hc : acc with
                    | nil => rw [hc] at halen; simp at halen; omega
                    | cons e0 er => exact ⟨e0, er, rfl⟩
                  have hi0 := (entCells_at acc 0 e0 (by rw [hacc]; rfl)).1
                  have c0 : wr.cell? ⟨eb, 0, none⟩ = some (.int .i64 e0.base) := (hq1.cellAt 0 (by omega)).trans hi0
                  have hhb : headBase acc = e0.base := by rw [hacc]; rfl
                  have hebl : eb ≠ l := by
                    rintro rfl
                    obtain ⟨c, fz, hc⟩ := Lib.ownsRow_kind hq1 _ rfl
                    have := hrt.hdr
                    unfold Blk at this
                    rw [this] at hc
                    cases hc
                  have hil0 : (0 : Int) < (its.length : Int) := by omega
                  have hb5 := hrt.hdr.set 4 (.int .i64 n)
                  have hf5 : Fr (fun j => j = l) wr (wr.setCell ⟨l, 4, none⟩ (.int .i64 n)) := Fr.setCell (S := fun j => j = l) (p := ⟨l, 4, none⟩) (Fr.refl _ _) (.inl rfl) _
                  have hr5 := hrt.set hf5 hb5
                  have HR5 := hid hr5
                  have HFR := hid hfr
                  have HF5 := hid hf5
                  have HAP := hid hap
                  have HMO := hid hmo
                  have HHB := hid hhb
                  clear hrt hfr hap hmo hhb hacc hq1 hq2 hsg hi0 hb5 hf5 hr5
                  go_wp2_with fail
                  go_ret2
                  have hapD : ∀ j, SD4' j → ¬ S4 j := fun j hj hs => LogAt.apart HL4.out H4.out.disk hs hj
                  have hd5 : DiskAt (wr.setCell ⟨l, 4, none⟩ (.int .i64 n)) d SD4' D2 := (H4.out.disk.fr HFR.out (fun j hj e => hapD j hj (HAP.out j e))).fr HF5.out (fun j hj e => hapD j hj ((H4.out.footL j).2 (.inl e)))
                  have hff : Fr (fun j => S j ∨ SD j) w wr := by
                    have h1 := H4.out.fr
                    have h2 := HFR.out
                    exact ⟨h2.os.trans h1.os, h2.tape.trans h1.tape, h2.output.trans h1.output, Nat.le_trans h1.size h2.size, fun j hj hn => (h2.block j (Nat.lt_of_lt_of_le hj h1.size) (fun e => (H4.out.foot j (HAP.out j e)).elim (fun e => hn (.inl e)) (by omega))).trans (h1.block j hj hn)⟩
                  have hlS : S4 l := (H4.out.footL l).2 (.inl rfl)
                  rw [H4.out.app, HHB.out]
                  refine ⟨rfl, footL l (ma ++ [mv]) (.slice (some ⟨sg, 0, none⟩) (a.length + 1) cap4), SD4', ⟨_, _, HR5.out, fun _ => Iff.rfl⟩, hd5, Fr.setCell (p := ⟨l, 4, none⟩) hff ((H4.out.foot l hlS).imp .inl id) _, ?_, H4.out.footD⟩
                  intro j hj
                  rcases hj with rfl | hj | ⟨u, hu, hj⟩
                  · exact H4.out.foot _ hlS
                  · exact H4.out.foot j ((H4.out.footL j).2 (.inr (.inl hj)))
                  · rcases List.mem_append.1 hu with hu | hu
                    · exact H4.out.foot j ((H4.out.footL j).2 (.inr (.inr ⟨u, by simp [hu], hj⟩)))
                    · simp only [List.mem_singleton] at hu
                      subst hu
                      rcases HMO.out with e | ⟨b, e, hb⟩
                      · exact H4.out.foot j ((H4.out.footL j).2 (.inr (.inr ⟨v, by simp, e.symm.trans hj⟩)))
                      · rw [hj] at e
                        injection e with e
                        exact .inr (by omega)
          · have hzn : (e2 == 0) = false := by simpa using h0
            have hzn2 : (e2 != 0) = true := by simpa using h0
            --<
            go_wp2_with fail
            go_ret2
            rw [H2.out.app, HPUT.out, if_neg H5.out, if_pos h0]
            exact ⟨rfl, (H2.out.noted HTO.out e2).2.1⟩
            -->

end Go.Proofs.YtgjkjkeeblbjlaaGreatDoor

namespace Go.Proofs.YtgjkjkeeblbjlaaGreatDoor
open Go.RowKit

theorem row_slice {w : World} {base : Nat} {e : TypeId} {size : Nat} {v : Value} {n : Nat} {xs : List Value} (h : w.ownsRow base e size v n xs) : ∃ ad cap, v = .slice ad n cap := by
  rcases Joins.ownsRow_forms h with ⟨e, hz⟩ | ⟨g, cap, e⟩
  · exact ⟨none, 0, by rw [e, hz]⟩
  · exact ⟨_, cap, e⟩

theorem one_marks (l : List PMark) : ∀ u ∈ markCells l, u.oneCell' = true := by
  intro u hu
  unfold markCells at hu
  obtain ⟨m, _, hm⟩ := List.mem_flatMap.1 hu
  simp only [List.mem_cons, List.mem_nil_iff, or_false] at hm
  rcases hm with rfl | rfl | rfl <;> rfl

theorem flat_len (l : List PSeg) (B : Nat) (h : ∀ x ∈ l, x.marks.length ≤ B) : (l.flatMap PSeg.marks).length ≤ l.length * B := by
  induction l with
  | nil => simp
  | cons x l ih =>
    rw [List.flatMap_cons, List.length_append, List.length_cons, Nat.succ_mul]
    have := h x (by simp)
    have := ih (fun y hy => h y (by simp [hy]))
    omega
end Go.Proofs.YtgjkjkeeblbjlaaGreatDoor

namespace Go.Proofs.YtgjkjkeeblbjlaaGreatDoor
open Go.RowKit

variable {P : Program}

/-- Only the way on is to be met. -/
theorem wp_normal {c : Code} {Q : Exit → Act → World → Prop} {a : Act} {w : World} (h : c.wp P (Exit.then (fun a w => Q .normal a w) (fun _ _ _ => False)) a w) : c.wp P Q a w :=
  wp_mono h (fun e a w h => by cases e <;> first | exact h | exact h.elim)

/-- **The law for a range that may be left by a break only:** what follows is met once. -/
theorem wp_range_break {α : Type} {g : Operand} {ps : Array Tmp} {assign body : Code} {Q : Exit → Act → World → Prop} {a : Act} {w : World} (id : Nat) (hq : ∀ a W, Q .normal a W → Q (.exit id) a W)
    {gf : Nat} {lb : Array Value} (hg : a.eval g = .func (.func gf) #[] lb) (eg : ∀ args w, (callFunc gf args).run P w = .ok (.enter gf args) w)
    {encs : α → Array Value} {S : Nat → Prop} {xs : List α} (hit : It Fence.wide 8 P gf lb S encs xs w) (hS : ∀ k, S k → k < w.heap.size) (hps : ∀ x, (encs x).size = ps.size)
    (I : List α → World → Prop) (J : World → Prop)
    (hI : ∀ s A B, I s A → Fr (fun k => S k ∨ k = w.heap.size ∨ k = w.heap.size + 1) A B → I s B)
    (hJ : ∀ A B, J A → Fr (fun k => S k ∨ k = w.heap.size ∨ k = w.heap.size + 1) A B → J B)
    (h0 : ∀ W, Below w.heap.size w W → w.heap.size + 2 ≤ W.heap.size → I [] W)
    (hround : ∀ pre x W, (pre ++ [x]) <+: xs → I pre W → w.heap.size + 2 ≤ W.heap.size →
      assign.wpIn (Fence.wide.inRound (w.heap.size + 1)) 7 P (Exit.then (fun a1 W1 => Kept (fun k => S k ∨ k = w.heap.size ∨ k = w.heap.size + 1) W W1 ∧
        ∀ W2, Fr (fun k => k = w.heap.size + 1) W1 W2 → body.wpIn (Fence.wide.inRound (w.heap.size + 1)) 7 P (RPost (fun k => S k ∨ k = w.heap.size ∨ k = w.heap.size + 1) I (fun c _ W => c = .exit id ∧ J W) (pre ++ [x]) W2) a1 W2) (fun _ _ _ => False))
        { tmps := (ps.zip (encs x)).foldl (fun t (p, v) => t.setIfInBounds p v) a.tmps, defers := [] } W)
    (hdone : ∀ W, I xs W → J W)
    (hfin : ∀ W, J W → W.heap[w.heap.size]? = some (.deferred (some [])) → Q .normal { a with defers := { target := .collected w.heap.size, args := #[] } :: a.defers } W) :
    (Code.rangeFunc g ps assign body).wp P Q a w := by
  refine (wpIn_wide (n := 9)).1 ?_
  refine wpIn_range (F := Fence.wide) rfl (by decide) hg trivial eg hit hS hps I (fun c _ W => c = .exit id ∧ J W) hI ?_ h0 hround (fun W h hd => hfin W (hdone W h) hd) ?_
  · rintro c s A B ⟨h1, h2⟩ hf
    exact ⟨h1, hJ A B h2 hf⟩
  · rintro c pre W hpre ⟨rfl, h2⟩ hd
    exact wpIn_wide.2 (wp_exit (hq _ _ (hfin W h2 hd)))

end Go.Proofs.YtgjkjkeeblbjlaaGreatDoor

namespace Go.Proofs.YtgjkjkeeblbjlaaGreatDoor
open Go

section
variable {n l : Nat} {P : Program} {ops : Array Oper} {Q : Exit → Act → World → Prop} {md : Region.Mode}

def NoDefer (ops : Array Oper) : Prop := ∀ (i : Nat) (o : Oper), ops[i]? = some o → ∀ c, o.op ≠ .defer c

theorem wpIn_round {o : Oper} {a : Act} {w : World} {K : Act → World → Prop} (hd : ∀ c, o.op ≠ .defer c) (h : o.wpIn Fence.wide n P a w K Q) : o.wpIn (Fence.wide.inRound l) n P a w K Q := by
  unfold Oper.wpIn at *
  refine ⟨h.1, ?_⟩
  have h2 := h.2
  rw [show Fence.wide.round = none from rfl, Oper.semAt_none] at h2
  rw [Fence.inRound_round, Oper.semAt_some _ _ _ hd]
  exact h2

theorem wpOpIn_round {i : Nat} {K K' : Act → World → Prop} {a : Act} {w : World} (hd : NoDefer ops) (hK : ∀ a w, K a w → K' a w) (h : wpOpIn Fence.wide n P ops Q i K a w) : wpOpIn (Fence.wide.inRound l) n P ops Q i K' a w := by
  have h := wpOpIn_mono hK h
  unfold wpOpIn at *
  cases ho : ops[i]? with
  | none => simp only [ho] at h ⊢; exact h
  | some o =>
    simp only [ho] at h ⊢
    split
    · rename_i hw
      rw [if_pos hw] at h
      exact wpIn_round (hd i o ho) h
    · rename_i hw
      rw [if_neg hw] at h
      exact h

theorem wpAnyIn_round (hd : NoDefer ops) : ∀ (fuel : Nat) (listed : Array Bool) (a : Act) (w : World), wpAnyIn Fence.wide n P md ops Q fuel listed a w → wpAnyIn (Fence.wide.inRound l) n P md ops Q fuel listed a w
  | 0, _, _, _, h => h
  | fuel + 1, _, _, _, h => ⟨h.1, fun i hi => wpOpIn_round hd (fun a w => wpAnyIn_round hd fuel _ a w) (h.2 i hi)⟩

/-- No deferred call stands among the operations. -/
def noDeferB (l : List Oper) : Bool := l.all fun o => match o.op with | .defer _ => false | _ => true

theorem noDefer_of {l : List Oper} (h : noDeferB l = true) : NoDefer l.toArray := by
  intro i o ho c he
  have hm : o ∈ l := by
    have : l[i]? = some o := by simpa using ho
    exact List.mem_of_getElem? this
  have := List.all_eq_true.1 h o hm
  rw [he] at this
  simp at this

/-- **One walk in the order of the text, in a round.** -/
theorem wpIn_region_quiet_round {id : Nat} {a : Act} {w : World} {ls : List Oper} (hm : P.follows .mixedOrders = true) (hB : Region.lexB .any ls.toArray = true) (hd : noDeferB ls = true)
    (h : wpQuietIn Fence.wide n P ls.toArray (fun w' => ∃ n, w' = w.drewN n) (fun a' => ∀ w', (∃ n, w' = w.drewN n) → Q .normal a' w') ls a) : (Code.region id ls.toArray true).wpIn (Fence.wide.inRound l) n P Q a w := by
  simp only [Region.lexB, Bool.and_eq_true] at hB
  refine wpIn_region_any hm (wpAnyIn_round (noDefer_of hd) _ _ _ _ (wpAnyIn_of_quiet (C := fun w' => ∃ n, w' = w.drewN n) (Q := fun a' => ∀ w', (∃ n, w' = w.drewN n) → Q .normal a' w') rfl (fun _ w' hw' h => h w' hw') _ _ _ _ ⟨1, rfl⟩ ?_))
  have := wpAnyQIn_lex (F := Fence.wide) (n := n) (C := fun w' => ∃ n, w' = w.drewN n) (md := .any) hB.1 ls.toArray.toList 0 (Array.replicate ls.toArray.size false) a (by simp) (by simpa using hB.2) (by simpa using h)
  simpa using this

/-- The same from the walk's own state on. -/
theorem wpIn_region_round {id : Nat} {a : Act} {w : World} {ls : List Oper} (hm : P.follows .mixedOrders = true) (hd : noDeferB ls = true)
    (h : wpAnyIn Fence.wide n P .any ls.toArray Q ls.toArray.size (Array.replicate ls.toArray.size false) a w.drew) : (Code.region id ls.toArray true).wpIn (Fence.wide.inRound l) n P Q a w :=
  wpIn_region_any hm (wpAnyIn_round (noDefer_of hd) _ _ _ _ h)
end

/-- append to a row of the call's own, inside a fence: and where the row lies. -/
theorem wpListIn_append_at {F : Fence} {n : Nat} {P : Program} (w : World) {ops : Array Oper} {rest : List Oper} {o : Oper} {a : Act} {Q : Exit → Act → World → Prop}
    (hg : o.guard = none) (s x : Operand) (t : TypeId) (hop : o.op = Op.call { callee := Callee.builtin Builtin.append, args := #[s, x], argTypes := #[t, t] })
    (base : Nat) (e : TypeId) (i : TypeInfo) (z : Value) (size bytes : Nat) (h1 : P.underlying t = some (.slice e)) (h2 : P.info? e = some i) (h3 : i.zero = some z) (h4 : i.size = size) (h5 : i.bytes = bytes) (h6 : z.cells.size = size) (h7 : 0 < size)
    (v : Value) (k : Nat) (xs : List Value) (hs : a.eval s = v) (hown : w.ownsRow base e size v k xs) (ad : Addr) (m c : Nat) (news : List Value) (hx : a.eval x = .slice (some ad) m c) (hn : news.length = m * size)
    (hc : ∀ j u, news[j]? = some u → w.cell? (ad.add j) = some u) (h1c : ∀ u ∈ news, u.oneCell' = true) (b1 : k + m ≤ maxLen) (b2 : (k + m) * bytes ≤ 140737488355328) (b3 : base ≤ w.heap.size)
    (hK : ∀ v' w', w'.ownsRow base e size v' (k + m) (xs ++ news) → w.grownBy w' v.ownBlock → (v'.ownBlock = v.ownBlock ∨ v'.ownBlock = some w.heap.size) → wpListIn F n P ops Q rest (a.put o.dst v') w') :
    wpListIn F n P ops Q (o :: rest) a w := by
  refine wpListIn_plain hg fun K hK' => ?_
  obtain ⟨v', w', hrun, r1, r2, r3, r4⟩ := run_append_own_at (P := P) w base t o.type e i z size bytes h1 h2 h3 h4 h5 h6 h7 v k xs hown ad m c news hn hc h1c b1 b2 b3
  unfold Oper.wpIn
  refine ⟨?_, ?_⟩
  · simp [Oper.about, hop, resolve, Target.leads, Sem.run_pure]
  · rw [Oper.semAt_plain F _ _ (by rw [hop]; intro c hc'; cases hc')]
    simp [execOp, hop, resolve, invoke, builtin, hs, hx, hrun, Result.andThen]
    exact hK' _ _ (hK v' w' r1 r2 r4)

end Go.Proofs.YtgjkjkeeblbjlaaGreatDoor

namespace Go.Proofs.YtgjkjkeeblbjlaaGreatDoor
open Go.RowKit
attribute [local go_sem] Oper.semAt_some

/-- Entries are told, from an offset on, so many at most: what has been told, and whether it is enough. -/
def fetchSeg (off : Int) (most : Nat) : List (Nat × Ent) → List Ent → List Ent × Bool
  | [], out => (out, false)
  | y :: l, out =>
    let out' := if off < y.2.base + y.2.n then out ++ [y.2] else out
    if out'.length = most then (out', true) else fetchSeg off most l out'

def fetchAll (D : PDisk) (name : List UInt8) (off : Int) (most : Nat) : List PSeg → List Ent → List Ent × Int
  | [], out => (out, 0)
  | x :: r, out =>
    if (∃ y, r.head? = some y ∧ y.base ≤ off) then fetchAll D name off most r out
    else
      let rd := D.read (segName name x.base)
      if rd.2 ≠ 0 then ([], rd.2)
      else
        let res := fetchSeg off most (rowL (rd.1.drop (fromL off x.marks).toNat)) out
        if res.2 then (res.1, 0) else fetchAll D name off most r res.1

def PLog.fetch (L : PLog) (D : PDisk) (off most : Int) : List Ent × Int :=
  if most < 1 ∨ 32 < most then ([], 1) else if L.e ≠ 0 then ([], L.e) else if off < L.first ∨ L.next < off then ([], 6)
  else fetchAll D L.name off most.toNat L.segs []

/-- What Fetch leaves. -/
def FetchPost (r : List Ent × Int) (w : World) (e : Ending) (w' : World) : Prop :=
  ∃ v, e = .returned (.tuple #[v, .int .i64 r.2]) ∧ w'.ownsRow w.heap.size 103 3 v r.1.length (entCells r.1) ∧ Below w.heap.size w w'

/-- A frame of 125 slots. -/
theorem frame125 (t : Array Value) (h : t.size = 125) : ∃ z : Nat → Value, t = #[z 0, z 1, z 2, z 3, z 4, z 5, z 6, z 7, z 8, z 9, z 10, z 11, z 12, z 13, z 14, z 15, z 16, z 17, z 18, z 19, z 20, z 21, z 22, z 23, z 24, z 25, z 26, z 27, z 28, z 29, z 30, z 31, z 32, z 33, z 34, z 35, z 36, z 37, z 38, z 39, z 40, z 41, z 42, z 43, z 44, z 45, z 46, z 47, z 48, z 49, z 50, z 51, z 52, z 53, z 54, z 55, z 56, z 57, z 58, z 59, z 60, z 61, z 62, z 63, z 64, z 65, z 66, z 67, z 68, z 69, z 70, z 71, z 72, z 73, z 74, z 75, z 76, z 77, z 78, z 79, z 80, z 81, z 82, z 83, z 84, z 85, z 86, z 87, z 88, z 89, z 90, z 91, z 92, z 93, z 94, z 95, z 96, z 97, z 98, z 99, z 100, z 101, z 102, z 103, z 104, z 105, z 106, z 107, z 108, z 109, z 110, z 111, z 112, z 113, z 114, z 115, z 116, z 117, z 118, z 119, z 120, z 121, z 122, z 123, z 124] ∧ ∀ i, t.getD i undef = z i := by
  refine ⟨fun i => t.getD i undef, ?_, fun _ => rfl⟩
  have e : t = ((List.range 125).map fun i => t.getD i undef).toArray := by
    apply Array.ext
    · simp [h]
    · intro i h1 h2
      simp [h1]
  exact e


/-- Calls behind that did nothing. -/
theorem leaves_collected {P : Program} {fn : Func} {tmps : Array Value} {R : Ending → World → Prop} (v : Value) : ∀ (ks : List Nat) (W : World), (∀ k ∈ ks, W.heap[k]? = some (.deferred (some []))) → ks.Nodup →
    (∀ W', Fr (fun k => k ∈ ks) W W' → (results fn tmps).run P W' = .ok v W' ∧ R (.returned v) W') →
    LeavesInM Fence.wide 9 P fn tmps R (ks.map fun k => { target := .collected k, args := #[] }) .returning W
  | [], W, _, _, h => ⟨v, h W (Fr.refl _ _)⟩
  | k :: ks, W, hD, hn, h => by
    refine ⟨by simp, .inl ⟨_, _, rfl, run_takeDeferred (b := k) (hD k (by simp)), ?_⟩⟩
    have hput : Fr (fun j => j = k) W (W.putObj k (.deferred none)) := fr_putObj _ _ _ rfl
    have hnn := List.nodup_cons.1 hn
    refine leaves_collected v ks _ (fun j hj => ?_) hnn.2 (fun W' hf => h W' ?_)
    · have hlt : j < W.heap.size := (Array.getElem?_eq_some_iff.1 (hD j (by simp [hj]))).1
      rw [hput.block j hlt (fun e => hnn.1 (e ▸ hj))]
      exact hD j (by simp [hj])
    · exact (hput.mono (fun j _ e => by simp [e])).trans (hf.mono (fun j _ e => by simp [e]))

theorem PDisk.read_len {D : PDisk} {n : Int} (h : D.WF n) (name : List UInt8) : (D.read name).1.length ≤ 2097152 := by
  unfold PDisk.read
  split
  · simp
  · cases hl : D.look name with
    | none => simp
    | some f =>
      have := h.lens (PDisk.look_some hl).1
      simp only [List.length_append]; omega

theorem takeEnt_okF {l : List UInt8} {e : Ent} {r : List UInt8} (h : takeEnt l = some (e, r)) : e.ok := by
  unfold takeEnt at h
  split at h
  · cases h
  · split at h
    · cases h
    · split at h
      · cases h
      · split at h
        · cases h
        · rename_i e' he
          simp only [Option.some.injEq, Prod.mk.injEq] at h
          obtain ⟨rfl, _⟩ := h
          unfold entOf at he
          split at he
          · split at he
            · rename_i hok
              simp only [Option.some.injEq] at he
              rw [← he]; exact hok
            · cases he
          · cases he

theorem rowL_okF (l : List UInt8) : ∀ n, l.length ≤ n → ∀ p ∈ rowL l, p.2.ok := by
  intro n
  induction n generalizing l with
  | zero =>
    intro h p hp
    cases ht : takeEnt l with
    | none => rw [rowL_none ht] at hp; cases hp
    | some x => have := takeEnt_len l x.1 x.2 ht; omega
  | succ n ih =>
    intro h p hp
    cases ht : takeEnt l with
    | none => rw [rowL_none ht] at hp; cases hp
    | some x =>
      have hl := takeEnt_len l x.1 x.2 ht
      rw [rowL_some (e := x.1) (r := x.2) ht] at hp
      rcases List.mem_cons.1 hp with rfl | hp
      · exact takeEnt_okF ht
      · exact ih x.2 (by omega) p hp

/-- What Fetch has in memory: its boxes, and what is to be told. -/
structure FetchM (w : World) (p1 p2 p3 p4 : Nat) (off most : Int) (out : List Ent) (W : World) : Prop where
  b0 : Blk W w.heap.size #[.int .i64 off] 3
  b1 : Blk W p1 #[.int .i64 most] 3
  b2 : Blk W p2 #[.slice none 0 0] 99
  b3 : Blk W p3 #[.int .i64 0] 50
  own : ∃ v, Blk W p4 #[v] 99 ∧ W.ownsRow w.heap.size 103 3 v out.length (entCells out)
  bel : Below w.heap.size w W
  places : p1 = w.heap.size + 1 ∧ p2 = w.heap.size + 2 ∧ p3 = w.heap.size + 3 ∧ p4 = w.heap.size + 4

theorem FetchM.fr {w : World} {p1 p2 p3 p4 : Nat} {off most : Int} {out : List Ent} {A B : World} (h : FetchM w p1 p2 p3 p4 off most out A) (hf : Fr (fun _ => False) A B) : FetchM w p1 p2 p3 p4 off most out B := by
  obtain ⟨b0, b1, b2, b3, ⟨v, b4, ho⟩, hb, hp⟩ := h
  exact ⟨b0.fr hf (fun h => h), b1.fr hf (fun h => h), b2.fr hf (fun h => h), b3.fr hf (fun h => h), ⟨v, b4.fr hf (fun h => h), row_fr ho hf (fun _ _ h => h)⟩, hb.trans (hf.to_below hb.size (fun _ _ h => h)), hp⟩

/-- Between two rounds of Fetch's range. -/
structure FetchR (w : World) (p1 p2 p3 p4 : Nat) (off most : Int) (ks : List Nat) (bx : Nat) (out : List Ent) (W : World) : Prop where
  b0 : Blk W w.heap.size #[.int .i64 off] 3
  b1 : Blk W p1 #[.int .i64 most] 3
  b2 : Blk W p2 #[.slice none 0 0] 99
  b3 : Blk W p3 #[.int .i64 0] 50
  own : ∃ v, Blk W p4 #[v] 99 ∧ W.ownsRow w.heap.size 103 3 v out.length (entCells out) ∧ ∀ j, v.ownBlock = some j → j < bx ∨ bx + 3 ≤ j
  bel : Below w.heap.size w W
  places : p1 = w.heap.size + 1 ∧ p2 = w.heap.size + 2 ∧ p3 = w.heap.size + 3 ∧ p4 = w.heap.size + 4 ∧ w.heap.size + 5 ≤ bx
  dead : ∀ j ∈ ks, W.heap[j]? = some (.deferred (some [])) ∧ w.heap.size ≤ j ∧ j < bx

/-- Fetch has told enough. -/
structure FetchX (w : World) (p2 p3 : Nat) (ks : List Nat) (bx : Nat) (out : List Ent) (W : World) : Prop where
  own : ∃ v, Blk W p2 #[v] 99 ∧ W.ownsRow w.heap.size 103 3 v out.length (entCells out) ∧ ∀ j, v.ownBlock = some j → j < bx ∨ bx + 3 ≤ j
  b3 : Blk W p3 #[.int .i64 0] 50
  bel : Below w.heap.size w W
  places : p2 = w.heap.size + 2 ∧ p3 = w.heap.size + 3 ∧ w.heap.size + 5 ≤ bx
  dead : ∀ j ∈ ks, W.heap[j]? = some (.deferred (some [])) ∧ w.heap.size ≤ j ∧ j < bx

theorem dead_fr {w : World} {ks : List Nat} {bx : Nat} {A B : World} {S : Nat → Prop} (h : ∀ j ∈ ks, A.heap[j]? = some (.deferred (some [])) ∧ w.heap.size ≤ j ∧ j < bx) (hf : Fr S A B) (hS : ∀ j ∈ ks, ¬ S j) : ∀ j ∈ ks, B.heap[j]? = some (.deferred (some [])) ∧ w.heap.size ≤ j ∧ j < bx := by
  intro j hj
  obtain ⟨h1, h2⟩ := h j hj
  exact ⟨(hf.block j (Array.getElem?_eq_some_iff.1 h1).1 (hS j hj)).trans h1, h2⟩

theorem FetchR.keep {w : World} {p1 p2 p3 p4 : Nat} {off most : Int} {ks : List Nat} {bx n : Nat} {out : List Ent} {A B : World} (h : FetchR w p1 p2 p3 p4 off most ks bx out A) (hn : n = bx + 1) (hf : Fr (fun k => k = bx ∨ k = n ∨ k = n + 1) A B) : FetchR w p1 p2 p3 p4 off most ks bx out B := by
  obtain ⟨b0, b1, b2, b3, ⟨v, b4, ho, hv⟩, hb, hp, hd⟩ := h
  exact ⟨b0.fr hf (by omega), b1.fr hf (by omega), b2.fr hf (by omega), b3.fr hf (by omega), ⟨v, b4.fr hf (by omega), row_fr ho hf (fun k hk => by have := hv k hk; omega), hv⟩, hb.trans (hf.to_below hb.size (fun k hk => by omega)), hp, dead_fr hd hf (fun j hj => by have := (hd j hj).2; omega)⟩

theorem FetchX.keep {w : World} {p2 p3 : Nat} {ks : List Nat} {bx n : Nat} {out : List Ent} {A B : World} (h : FetchX w p2 p3 ks bx out A) (hn : n = bx + 1) (hf : Fr (fun k => k = bx ∨ k = n ∨ k = n + 1) A B) : FetchX w p2 p3 ks bx out B := by
  obtain ⟨⟨v, b4, ho, hv⟩, b3, hb, hp, hd⟩ := h
  exact ⟨⟨v, b4.fr hf (by omega), row_fr ho hf (fun k hk => by have := hv k hk; omega), hv⟩, b3.fr hf (by omega), hb.trans (hf.to_below hb.size (fun k hk => by omega)), hp, dead_fr hd hf (fun j hj => by have := (hd j hj).2; omega)⟩

theorem fetchSeg_step (off : Int) (most : Nat) (m : Nat) (y : Ent) (l : List (Nat × Ent)) (out : List Ent) : fetchSeg off most ((m, y) :: l) out =
    if (if off < y.base + y.n then out ++ [y] else out).length = most then ((if off < y.base + y.n then out ++ [y] else out), true) else fetchSeg off most l (if off < y.base + y.n then out ++ [y] else out) := by
  rw [fetchSeg]

theorem own_kind_ne {W : World} {base : Nat} {e : TypeId} {size : Nat} {v : Value} {n : Nat} {xs : List Value} (h : W.ownsRow base e size v n xs) {b : Nat} {c : Array Value} {T : TypeId} (hb : Blk W b c T) (hne : T ≠ e) : v.ownBlock ≠ some b := by
  intro he
  obtain ⟨c', fz, hc⟩ := Lib.ownsRow_kind h b he
  unfold Blk at hb
  rw [hb] at hc
  simp only [Option.some.injEq, Obj.cells.injEq] at hc
  exact hne hc.2.1

theorem own_dead_ne {W : World} {base : Nat} {e : TypeId} {size : Nat} {v : Value} {n : Nat} {xs : List Value} (h : W.ownsRow base e size v n xs) {b : Nat} {o : Option (List Deferred)} (hb : W.heap[b]? = some (.deferred o)) : v.ownBlock ≠ some b := by
  intro he
  obtain ⟨c', fz, hc⟩ := Lib.ownsRow_kind h b he
  rw [hb] at hc
  cases hc

/-- An entry more is to be told. -/
theorem FetchR.push {w : World} {p1 p2 p3 p4 : Nat} {off most : Int} {ks : List Nat} {bx : Nat} {o : List Ent} {W7 W8 : World} {oo : Obj} {v v' : Value} (h : FetchR w p1 p2 p3 p4 off most ks bx o W7)
    (hb4 : Blk W7 p4 #[v] 99) (ho : W7.ownsRow w.heap.size 103 3 v o.length (entCells o)) (hv : ∀ j, v.ownBlock = some j → j < bx ∨ bx + 3 ≤ j) (hbx : bx + 3 ≤ W7.heap.size) (y : Ent)
    (hown : W8.ownsRow w.heap.size 103 3 v' (o.length + 1) (entCells o ++ [.int .i64 y.base, .int .i64 y.n, .string (bs y.text)])) (hg : (W7.alloc oo).grownBy W8 v.ownBlock) (hat : v'.ownBlock = v.ownBlock ∨ v'.ownBlock = some (W7.alloc oo).heap.size) :
    FetchR w p1 p2 p3 p4 off most ks bx (o ++ [y]) (W8.setCell ⟨p4, 0, none⟩ v') ∧ Fr (fun k => k = p4 ∨ v.ownBlock = some k) W7 (W8.setCell ⟨p4, 0, none⟩ v') ∧ Fr (fun k => v.ownBlock = some k) W7 W8 ∧ Blk (W8.setCell ⟨p4, 0, none⟩ v') p4 #[v'] 99 := by
  obtain ⟨b0, b1, b2, b3, _, hb, hp, hd⟩ := h
  have hfy : Fr (fun k => v.ownBlock = some k) W7 (W7.alloc oo) := (Fr.refl _ W7).alloc _
  have hf1 : Fr (fun k => v.ownBlock = some k) W7 W8 := ⟨hg.os.trans hfy.os, hg.tape.trans hfy.tape, hg.output.trans hfy.output, Nat.le_trans hfy.size hg.size, fun k hk hn => (hg.block k (Nat.lt_of_lt_of_le hk hfy.size) (fun e => hn e.symm)).trans (hfy.block k hk hn)⟩
  have hf2 : Fr (fun k => k = p4 ∨ v.ownBlock = some k) W7 (W8.setCell ⟨p4, 0, none⟩ v') := Fr.setCell (p := ⟨p4, 0, none⟩) (hf1.mono (fun _ _ e => .inr e)) (.inl (.inl rfl)) _
  have n4 := own_kind_ne ho hb4 (by decide)
  have b4 := (hb4.fr hf1 n4).set 0 v'
  have hlt4 := hb4.lt
  refine ⟨⟨b0.fr hf2 (fun e => e.elim (by omega) (own_kind_ne ho b0 (by decide))), b1.fr hf2 (fun e => e.elim (by omega) (own_kind_ne ho b1 (by decide))), b2.fr hf2 (fun e => e.elim (by omega) (own_kind_ne ho b2 (by decide))), b3.fr hf2 (fun e => e.elim (by omega) (own_kind_ne ho b3 (by decide))),
    ⟨v', b4, ?_, ?_⟩, ?_, hp, dead_fr hd hf2 (fun j hj e => e.elim (fun e => by
      have h1 := (hd j hj).1
      rw [e] at h1
      unfold Blk at hb4
      rw [hb4] at h1
      cases h1) (own_dead_ne ho (hd j hj).1))⟩, hf2, hf1, b4⟩
  · have e1 : (o ++ [y]).length = o.length + 1 := by simp
    have e2 : entCells (o ++ [y]) = entCells o ++ [.int .i64 y.base, .int .i64 y.n, .string (bs y.text)] := by unfold entCells; rw [List.flatMap_append]; rfl
    rw [e1, e2]
    refine row_fr hown (Fr.setCell (S := fun k => k = p4) (p := ⟨p4, 0, none⟩) (Fr.refl _ W8) (.inl rfl) _) (fun k hk e => ?_)
    subst e
    rcases hat with h | h
    · exact n4 (h.symm.trans hk)
    · rw [hk] at h
      injection h with h
      simp at h
      omega
  · intro j hj
    rcases hat with h | h
    · exact hv j (h.symm.trans hj)
    · rw [hj] at h
      injection h with h
      simp at h
      omega
  · refine (hb.trans (hf1.to_below hb.size (fun k hk e => ?_))).setCell (by show w.heap.size ≤ p4; omega) _
    have := (ho.lt k e).1
    omega

/-- Enough has been told. -/
theorem FetchR.done {w : World} {p1 p2 p3 p4 : Nat} {off most : Int} {ks : List Nat} {bx : Nat} {o : List Ent} {W : World} (h : FetchR w p1 p2 p3 p4 off most ks bx o W) {v : Value} (hb4 : Blk W p4 #[v] 99) :
    FetchX w p2 p3 ks bx o ((W.setCell ⟨p2, 0, none⟩ v).setCell ⟨p3, 0, none⟩ (.int .i64 0)) ∧ Fr (fun k => k = p2 ∨ k = p3) W ((W.setCell ⟨p2, 0, none⟩ v).setCell ⟨p3, 0, none⟩ (.int .i64 0)) := by
  obtain ⟨b0, b1, b2, b3, ⟨v1, c4, ho, hv⟩, hb, hp, hd⟩ := h
  have hvv : v1 = v := by
    have := (hb4.inj c4).1
    simpa using this.symm
  subst hvv
  have hf : Fr (fun k => k = p2 ∨ k = p3) W ((W.setCell ⟨p2, 0, none⟩ v1).setCell ⟨p3, 0, none⟩ (.int .i64 0)) := Fr.setCell (p := ⟨p3, 0, none⟩) (Fr.setCell (p := ⟨p2, 0, none⟩) (Fr.refl _ W) (.inl (.inl rfl)) _) (.inl (.inr rfl)) _
  have hnd : ∀ (b : Nat) (c : Array Value) (T : TypeId), Blk W b c T → ∀ j ∈ ks, j ≠ b := by
    rintro b c T hB j hj rfl
    have := (hd j hj).1
    unfold Blk at hB
    rw [hB] at this
    cases this
  refine ⟨⟨⟨v1, (b2.set 0 v1).other (by omega) 0 _, row_fr ho hf (fun k hk e => ?_), hv⟩, (b3.other (by omega) 0 v1).set 0 _, (hb.setCell (by show w.heap.size ≤ p2; omega) _).setCell (by show w.heap.size ≤ p3; omega) _, ⟨hp.2.1, hp.2.2.1, hp.2.2.2.2⟩, dead_fr hd hf (fun j hj e => e.elim (hnd _ _ _ b2 j hj) (hnd _ _ _ b3 j hj))⟩, hf⟩
  rcases e with rfl | rfl
  · exact own_kind_ne ho b2 (by decide) hk
  · exact own_kind_ne ho b3 (by decide) hk

/-- Between two rounds of Fetch's loop. -/
structure FetchJ (w : World) (l : Nat) (p1 p2 p3 p4 : Nat) (L : PLog) (D : PDisk) (off most : Int) (sv : Value) (k : Nat) (ks : List Nat) (out : List Ent) (n : Nat) (a : Act) (W : World) : Prop where
  size : a.tmps.size = 125
  s0 : a.tmps.getD 0 undef = .pointer (some ⟨l, 0, none⟩)
  s1 : a.tmps.getD 1 undef = .int .i64 off
  s2 : a.tmps.getD 2 undef = .int .i64 most
  s4 : a.tmps.getD 4 undef = .pointer (some ⟨w.heap.size, 0, none⟩)
  s5 : a.tmps.getD 5 undef = .pointer (some ⟨p1, 0, none⟩)
  s6 : a.tmps.getD 6 undef = .pointer (some ⟨p2, 0, none⟩)
  s7 : a.tmps.getD 7 undef = .pointer (some ⟨p3, 0, none⟩)
  s8 : a.tmps.getD 8 undef = .pointer (some ⟨p4, 0, none⟩)
  s54 : a.tmps.getD 54 undef = sv
  s55 : a.tmps.getD 55 undef = .int .i64 L.segs.length
  s56 : a.tmps.getD 56 undef = .int .i64 k
  defers : a.defers = ks.map fun k => { target := .collected k, args := #[] }
  num : n = L.segs.length - k
  kle : k ≤ L.segs.length
  mem : FetchM w p1 p2 p3 p4 off most out W
  few : (out.length : Int) < most
  same : fetchAll D L.name off most.toNat L.segs [] = fetchAll D L.name off most.toNat (L.segs.drop k) out
  dead : ∀ j ∈ ks, W.heap[j]? = some (.deferred (some [])) ∧ w.heap.size ≤ j
  nodup : ks.Nodup

/-- The end of Fetch. -/
theorem fetch_fin {w W : World} (tm : Array Value) (ks : List Nat) (v : Value) (r : List Ent × Int) (h6 : tm.getD 6 undef = .pointer (some ⟨w.heap.size + 2, 0, none⟩)) (h7 : tm.getD 7 undef = .pointer (some ⟨w.heap.size + 3, 0, none⟩))
    (b2 : Blk W (w.heap.size + 2) #[v] 99) (b3 : Blk W (w.heap.size + 3) #[.int .i64 r.2] 50) (ho : W.ownsRow w.heap.size 103 3 v r.1.length (entCells r.1)) (hb : Below w.heap.size w W)
    (hk : ∀ k ∈ ks, W.heap[k]? = some (.deferred (some [])) ∧ w.heap.size ≤ k) (hn : ks.Nodup) :
    bodyPostM Fence.wide 9 Tryz.prog Tryz.f45 (FetchPost r w) .ret { tmps := tm, defers := ks.map fun k => { target := .collected k, args := #[] } } W := by
  obtain ⟨ad, cp, rfl⟩ := row_slice ho
  refine leaves_collected (.tuple #[.slice ad r.1.length cp, .int .i64 r.2]) ks W (fun k hk' => (hk k hk').1) hn (fun W' hf => ?_)
  have hnk : ∀ (b : Nat) (c : Array Value) (T : TypeId), Blk W b c T → ¬ b ∈ ks := by
    intro b c T hB hm
    have := (hk b hm).1
    unfold Blk at hB
    rw [hB] at this
    cases this
  have e2 := (b2.fr hf (hnk _ _ _ b2)).cell (i := 0) (v := .slice ad r.1.length cp) rfl
  have e3 := (b3.fr hf (hnk _ _ _ b3)).cell (i := 0) (v := .int .i64 r.2) rfl
  refine ⟨?_, _, rfl, row_fr ho hf (fun k hk2 hm => ?_), hb.trans (hf.to_below hb.size (fun k hlt hm => by have := (hk k hm).2; omega))⟩
  · have g6 : tm[6]?.getD undef = .pointer (some ⟨w.heap.size + 2, 0, none⟩) := by simpa using h6
    have g7 : tm[7]?.getD undef = .pointer (some ⟨w.heap.size + 3, 0, none⟩) := by simpa using h7
    simp [results, Tryz.results45, go_sem, g6, g7, e2, e3]
  · obtain ⟨c, fz, hc⟩ := Lib.ownsRow_kind ho k hk2
    have := (hk k hm).1
    rw [hc] at this
    cases this

/-- Fetch ends with an error. -/
theorem fetch_bad {w W : World} {p1 p2 p3 p4 : Nat} {off most : Int} {out : List Ent} (h : FetchM w p1 p2 p3 p4 off most out W) (tm : Array Value) (ks : List Nat) (r : List Ent × Int) (e : Int) (hr : r = ([], e))
    (h6 : tm.getD 6 undef = .pointer (some ⟨p2, 0, none⟩)) (h7 : tm.getD 7 undef = .pointer (some ⟨p3, 0, none⟩)) (hk : ∀ k ∈ ks, W.heap[k]? = some (.deferred (some [])) ∧ w.heap.size ≤ k) (hn : ks.Nodup) :
    bodyPostM Fence.wide 9 Tryz.prog Tryz.f45 (FetchPost r w) .ret { tmps := tm, defers := ks.map fun k => { target := .collected k, args := #[] } } ((W.setCell ⟨p2, 0, none⟩ (.slice none 0 0)).setCell ⟨p3, 0, none⟩ (.int .i64 e)) := by
  obtain ⟨b0, b1, b2, b3, _, hb, e1, e2, e3, e4⟩ := h
  subst hr
  have hnd : ∀ (b : Nat) (c : Array Value) (T : TypeId), Blk W b c T → ¬ b ∈ ks := by
    intro b c T hB hm
    have := (hk b hm).1
    unfold Blk at hB
    rw [hB] at this
    cases this
  have n2 := hnd _ _ _ b2
  have n3 := hnd _ _ _ b3
  have b2' := (b2.set 0 (.slice none 0 0)).other (b' := p3) (by omega) 0 (.int .i64 e)
  have b3' := (b3.other (b' := p2) (by omega) 0 (.slice none 0 0)).set 0 (.int .i64 e)
  have m2 := n2
  have m3 := n3
  rw [e2] at b2' m2
  rw [e3] at b3' m3
  rw [e2] at b3'
  rw [e3] at b2'
  rw [e2, e3]
  refine fetch_fin tm ks (.slice none 0 0) ([], e) (by rw [h6, e2]) (by rw [h7, e3]) b2' b3' (World.ownsRow_nil _ _ _ _) ((hb.setCell (by simp) _).setCell (by simp) _) (fun k hm => ⟨?_, (hk k hm).2⟩) hn
  rw [Below.heap_setCell _ _ _ _ (by show k ≠ w.heap.size + 3; rintro rfl; exact m3 hm), Below.heap_setCell _ _ _ _ (by show k ≠ w.heap.size + 2; rintro rfl; exact m2 hm)]
  exact (hk k hm).1

set_option maxHeartbeats 4000000 in
theorem fetch_any {w : World} {l d : Nat} {S SD : Nat → Prop} {L : PLog} {D : PDisk} {N : Int} (off most : Int) (h : LogAt w l d S L) (hd : DiskAt w d SD D) (hw : D.WF N) (hwl : L.WF)
    (hpos : ∀ x ∈ L.segs, (D.read (segName L.name x.base)).2 = 0 → 0 ≤ fromL off x.marks ∧ fromL off x.marks ≤ (D.read (segName L.name x.base)).1.length) :
    Calls Tryz.prog 45 #[ptr l, .int .i64 off, .int .i64 most] w (FetchPost (L.fetch D off most) w) := by
  obtain ⟨i0, hi, hz0, hz1, hz2⟩ := info_parts Tryz.infoEntry
  have HL := hid h
  have HD := hid hd
  obtain ⟨ms, sv, h, hS⟩ := h
  obtain ⟨c0, c1, c2, c3, c4, c5, c6⟩ := h.cells
  obtain ⟨ad, cap, rfl, hat⟩ := h.form
  have HAT := hid hat
  have HR := hid h
  have HPOS := hid hpos
  have hlen := hwl.count
  have hll := h.hdr.lt
  clear h hat hd hpos hS
  unfold ptr
  refine (callsIn_wide (n := 9)).1 ?_
  refine callsIn_of_wp_marks Tryz.func45 rfl trivial ?_ rfl
  simp only [Tryz.ntmps45, List.size_toArray, List.length_cons, List.length_nil, Nat.reduceAdd, Nat.reduceSub, Array.replicate_succ, Array.replicate_zero, List.push_toArray, List.append_toArray, List.nil_append, List.cons_append]
  refine wpIn_wide.2 ?_
  go_upto_region 1 with fail
  obtain ⟨W1, hW1⟩ : ∃ W1, (((w.alloc (.cells #[.int .i64 off] 3)).alloc (.cells #[.int .i64 most] 3)).alloc (.cells #[.slice none 0 0] 99)).alloc (.cells #[.int .i64 0] 50) = W1 := ⟨_, rfl⟩
  have hbel : Below w.heap.size w W1 := hW1 ▸ bel_alloc (bel_alloc (bel_alloc (bel_alloc (Below.refl _ _) _) _) _) _
  have hb0 : Blk W1 w.heap.size #[.int .i64 off] 3 := hW1 ▸ (((Blk.new _ _ _).alloc _).alloc _).alloc _
  have hb1 : Blk W1 (w.heap.size + 1) #[.int .i64 most] 3 := by
    have h := ((Blk.new (w.alloc (.cells #[.int .i64 off] 3)) #[.int .i64 most] 3).alloc (.cells #[.slice none 0 0] 99)).alloc (.cells #[.int .i64 0] 50)
    rw [World.size_alloc, hW1] at h; exact h
  have hb2 : Blk W1 (w.heap.size + 2) #[.slice none 0 0] 99 := by
    have h := (Blk.new ((w.alloc (.cells #[.int .i64 off] 3)).alloc (.cells #[.int .i64 most] 3)) #[.slice none 0 0] 99).alloc (.cells #[.int .i64 0] 50)
    rw [World.size_alloc, World.size_alloc, hW1] at h; exact h
  have hb3 : Blk W1 (w.heap.size + 3) #[.int .i64 0] 50 := by
    have h := Blk.new (((w.alloc (.cells #[.int .i64 off] 3)).alloc (.cells #[.int .i64 most] 3)).alloc (.cells #[.slice none 0 0] 99)) #[.int .i64 0] 50
    rw [World.size_alloc, World.size_alloc, World.size_alloc, hW1] at h; exact h
  have hszW : W1.heap.size = w.heap.size + 4 := by rw [← hW1]; simp
  rw [hW1]
  clear hW1
  generalize hp3 : w.heap.size + 1 + 1 + 1 = p3
  generalize hp2 : w.heap.size + 1 + 1 = p2
  generalize hp1 : w.heap.size + 1 = p1
  rw [show w.heap.size + 3 = p3 from hp3] at hb3
  rw [show w.heap.size + 2 = p2 from hp2] at hb2
  rw [show w.heap.size + 1 = p1 from hp1] at hb1
  have HP := hid (And.intro hp1 (And.intro hp2 hp3))
  have n23 : ¬ p2 = p3 := by omega
  have n32 : ¬ p3 = p2 := by omega
  clear hp1 hp2 hp3
  have lift : ∀ (b o : Nat) (v : Value), w.cell? ⟨b, o, none⟩ = some v → W1.cell? ⟨b, o, none⟩ = some v := fun b o v h => (hbel.cell (p := ⟨b, o, none⟩) (World.block_lt_of_cell? w _ h)).trans h
  have d0 := lift _ _ _ c0
  have d1 := lift _ _ _ c1
  have d2 := lift _ _ _ c2
  have d3 := lift _ _ _ c3
  have d4 := lift _ _ _ c4
  have d6 := lift _ _ _ c6
  have x0 := hb0.cell (i := 0) (v := .int .i64 off) rfl
  have x1 := hb1.cell (i := 0) (v := .int .i64 most) rfl
  have f2 := hb2.free 0
  have f3 := hb3.free 0
  have x2 := hb2.cell (i := 0) (v := .slice none 0 0) rfl
  have x3 := hb3.cell (i := 0) (v := .int .i64 0) rfl
  have hlW : l < W1.heap.size := by omega
  have HB := hid (And.intro hb0 (And.intro hb1 (And.intro hb2 (And.intro hb3 hbel))))
  have HLIFT := hid lift
  have HSZ := hid hszW
  clear lift hb0 hb1 hb2 hb3 hbel c0 c1 c2 c3 c4 c5 c6 hszW
  have hbad : ∀ (W : World) (tm : Array Value) (e : Int), L.fetch D off most = ([], e) → Fr (fun _ => False) W1 W → tm.getD 6 undef = .pointer (some ⟨p2, 0, none⟩) → tm.getD 7 undef = .pointer (some ⟨p3, 0, none⟩) →
      bodyPostM Fence.wide 9 Tryz.prog Tryz.f45 (FetchPost (L.fetch D off most) w) .ret { tmps := tm, defers := [] } ((W.setCell ⟨p2, 0, none⟩ (.slice none 0 0)).setCell ⟨p3, 0, none⟩ (.int .i64 e)) := by
    intro W tm e hf hw2 h6 h7
    obtain ⟨_, _, b2, b3, bel⟩ := HB.out
    have b2' := ((b2.fr hw2 (fun h => h)).set 0 (.slice none 0 0)).other (b' := p3) (by omega) 0 (.int .i64 e)
    have b3' := ((b3.fr hw2 (fun h => h)).other (b' := p2) (by omega) 0 (.slice none 0 0)).set 0 (.int .i64 e)
    have hb := bel.trans (hw2.to_below bel.size (fun _ _ h => h))
    obtain ⟨e1, e2, e3⟩ := HP.out
    subst e2 e3
    exact fetch_fin tm [] (.slice none 0 0) (L.fetch D off most) h6 h7 b2' (by rw [hf]; exact b3') (by rw [hf]; exact World.ownsRow_nil _ _ _ _) ((hb.setCell (by simp; omega) _).setCell (by simp; omega) _) (by simp) (by simp)
  have HBAD := hid hbad
  clear hbad
  by_cases hm : most < 1 ∨ 32 < most
  · have HF : Hid (L.fetch D off most = ([], 1)) := hid (by unfold PLog.fetch; rw [if_pos hm])
    rcases hm with hm | hm
    · go_wp2_with fail
      exact HBAD.out W1 _ _ HF.out (Fr.refl _ _) rfl rfl
    · go_wp2_with fail
      exact HBAD.out W1 _ _ HF.out (Fr.refl _ _) rfl rfl
  · have hm1 : 1 ≤ most := by omega
    have hm2 : most ≤ 32 := by omega
    have hm3 : decide (32 < most) = false := by simp; omega
    have hmd : decide (most < 1) = false := by simp; omega
    have HM := hid hm
    clear hm
    by_cases he : L.e = 0
    · rw [he] at d6
      have HE := hid he
      clear he
      by_cases hr : off < L.first ∨ L.next < off
      · have HF : Hid (L.fetch D off most = ([], 6)) := hid (by unfold PLog.fetch; rw [if_neg HM.out, if_neg (fun h => h HE.out), if_pos hr])
        by_cases hr1 : off < L.first
        · have hr1' : decide (off < L.first) = true := by simpa using hr1
          clear hr
          go_wp2_with fail
          go_quiet (fail)
          go_wp2_with fail
          exact HBAD.out (W1.drewN nq) _ _ HF.out ((Fr.refl _ W1).drewN nq) rfl rfl
        · have hr2 : L.next < off := by omega
          have hr1' : decide (off < L.first) = false := by simpa using hr1
          have hr2' : decide (L.next < off) = true := by simpa using hr2
          clear hr hr1
          go_wp2_with fail
          go_quiet (fail)
          go_wp2_with fail
          exact HBAD.out (W1.drewN nq) _ _ HF.out ((Fr.refl _ W1).drewN nq) rfl rfl
      · have hr1 : decide (off < L.first) = false := by simp; omega
        have hr2 : decide (L.next < off) = false := by simp; omega
        have HRR := hid hr
        clear hr
        go_wp2_with fail
        go_quiet (fail)
        go_upto_region 8 with fail
        have hfr2 : Fr (fun _ => False) W1 ((W1.drewN nq).alloc (.cells #[.slice none 0 0] 99)) := ((Fr.refl _ W1).drewN nq).alloc _
        have hb4 : Blk ((W1.drewN nq).alloc (.cells #[.slice none 0 0] 99)) W1.heap.size #[.slice none 0 0] 99 := Blk.new (W1.drewN nq) _ _
        have hd2 : ((W1.drewN nq).alloc (.cells #[.slice none 0 0] 99)).cell? ⟨l, 2, none⟩ = some (.slice ad L.segs.length cap) := (World.cell?_of_block (hfr2.block _ hlW (fun h => h))).trans d2
        have hp4 : W1.heap.size = w.heap.size + 4 := HSZ.out
        generalize (W1.drewN nq).alloc (.cells #[.slice none 0 0] 99) = W2 at *
        generalize W1.heap.size = p4 at *
        have HFETCH : Hid (L.fetch D off most = fetchAll D L.name off most.toNat L.segs []) := hid (by unfold PLog.fetch; rw [if_neg HM.out, if_neg (fun h => h HE.out), if_neg HRR.out])
        have hmem : FetchM w p1 p2 p3 p4 off most [] W2 := by
          obtain ⟨b0, b1, b2, b3, bel⟩ := HB.out
          obtain ⟨e1, e2, e3⟩ := HP.out
          exact ⟨b0.fr hfr2 (fun h => h), b1.fr hfr2 (fun h => h), b2.fr hfr2 (fun h => h), b3.fr hfr2 (fun h => h), ⟨_, hb4, World.ownsRow_nil _ _ _ _⟩, bel.trans (hfr2.to_below bel.size (fun _ _ h => h)), e1.symm, e2.symm, e3.symm, hp4⟩
        have HMEM := hid hmem
        clear hmem hfr2 hb4 hp4 d0 d1 d2 d3 d4 d6 x0 x1 f2 f3 x2 x3 hlW
        go_wp2_with fail
        refine wp_loop_ghost_k (fun n a W => ∃ k ks out, FetchJ w l p1 p2 p3 p4 L D off most (.slice ad L.segs.length cap) k ks out n a W) L.segs.length ⟨0, [], [], rfl, rfl, rfl, rfl, rfl, rfl, rfl, rfl, rfl, rfl, rfl, rfl, rfl, rfl, by omega, HMEM.out, by simp; omega, rfl, by simp, by simp⟩ ?_
        rintro n a W ⟨k, ks, out, hJ⟩ J K hJK hK
        obtain ⟨tm, df⟩ := a
        have hdf := hJ.defers
        simp only at hdf
        subst hdf
        obtain ⟨z, hz, hg⟩ := frame125 tm hJ.size
        have e0 : z 0 = _ := (hg 0).symm.trans hJ.s0
        have e1 : z 1 = _ := (hg 1).symm.trans hJ.s1
        have e2 : z 2 = _ := (hg 2).symm.trans hJ.s2
        have e4 : z 4 = _ := (hg 4).symm.trans hJ.s4
        have e5 : z 5 = _ := (hg 5).symm.trans hJ.s5
        have e6 : z 6 = _ := (hg 6).symm.trans hJ.s6
        have e7 : z 7 = _ := (hg 7).symm.trans hJ.s7
        have e8 : z 8 = _ := (hg 8).symm.trans hJ.s8
        have e54 : z 54 = _ := (hg 54).symm.trans hJ.s54
        have e55 : z 55 = _ := (hg 55).symm.trans hJ.s55
        have e56 : z 56 = _ := (hg 56).symm.trans hJ.s56
        rw [e0, e1, e2, e4, e5, e6, e7, e8, e54, e55, e56] at hz
        subst hz
        have HJ := hid hJ
        obtain ⟨_, _, hout⟩ := hJ.mem.own
        have hbelW := hJ.mem.bel
        have hkle := hJ.kle
        have hfew := hJ.few
        have hwW := hbelW.size
        have x0 := hJ.mem.b0.cell (i := 0) (v := .int .i64 off) rfl
        clear hJ hg hout e0 e1 e2 e4 e5 e6 e7 e8 e54 e55 e56
        by_cases hlt : k < L.segs.length
        · obtain ⟨x, hx⟩ : ∃ x, L.segs[k]? = some x := ⟨_, List.getElem?_eq_getElem hlt⟩
          obtain ⟨u, hu⟩ : ∃ u, ms[k]? = some u := ⟨_, List.getElem?_eq_getElem (by rw [HR.out.len]; exact hlt)⟩
          obtain ⟨g, rfl, b0, b1, b2, b3⟩ := HAT.out k x u hx hu
          obtain ⟨ua, uc, rfl⟩ := row_slice (HR.out.marks k x u hx hu)
          have lift : ∀ (b o : Nat) (v : Value), w.cell? ⟨b, o, none⟩ = some v → W.cell? ⟨b, o, none⟩ = some v := fun b o v h => (hbelW.cell (p := ⟨b, o, none⟩) (World.block_lt_of_cell? w _ h)).trans h
          have d0 := lift _ _ _ b0
          have d1 := lift _ _ _ b1
          have d2 := lift _ _ _ b2
          have d3 := lift _ _ _ b3
          obtain ⟨q0, q1, q2, _⟩ := HR.out.cells
          have r0 := lift _ _ _ q0
          have r1 := lift _ _ _ q1
          have r2 := lift _ _ _ q2
          have hglt : g < W.heap.size := World.block_lt_of_cell? W _ d0
          have hllW : l < W.heap.size := World.block_lt_of_cell? W _ r0
          have hww : w.heap.size < W.heap.size := World.block_lt_of_cell? W _ x0
          have hkw : IntKind.i64.wrap ((k : Int) + 1) = (k : Int) + 1 := IntWalk.i64_in _ (by omega)
          have HX := hid hx
          have HU := hid hu
          have HLW := hid lift
          have HBW := hid hbelW
          clear hx hu b0 b1 b2 b3 q0 q1 q2 lift hbelW
          obtain ⟨skip, hskip⟩ : ∃ skip : Bool, skip = decide (∃ y, L.segs[k + 1]? = some y ∧ y.base ≤ off) := ⟨_, rfl⟩
          have HSKIP := hid hskip
          clear hskip
          go_upto_region 11 with fail
          go_cut [82] from 61 to 82 (fun c wx => c = .bool skip ∧ ∃ m, wx = (W.alloc (.cells #[.int .i64 x.base, .int .i64 x.bytes, .int .i64 x.entries, .slice ua x.marks.length uc] 147)).drewN m)
          case first =>
            by_cases hk1 : k + 1 < L.segs.length
            · have hd1 : decide ((k : Int) + 1 < (L.segs.length : Int)) = true := by simp; omega
              obtain ⟨y, hy⟩ : ∃ y, L.segs[k + 1]? = some y := ⟨_, List.getElem?_eq_getElem hk1⟩
              obtain ⟨u2, hu2⟩ : ∃ u, ms[k + 1]? = some u := ⟨_, List.getElem?_eq_getElem (by rw [HR.out.len]; exact hk1)⟩
              obtain ⟨g', hg', y0, _⟩ := HAT.out (k + 1) y u2 hy hu2
              simp only [Option.some.injEq, Addr.mk.injEq, and_true] at hg'
              subst hg'
              have yy := HLW.out _ _ _ y0
              have hkt : ((k : Int) + 1).toNat = k + 1 := by omega
              have hk0 : (0 : Int) ≤ (k : Int) + 1 := by omega
              have hkl : (k : Int) + 1 < (L.segs.length : Int) := by omega
              have HY := hid hy
              clear hy hu2 y0
              by_cases hyo : y.base ≤ off
              · have hs : skip = true := by rw [HSKIP.out]; simp [HY.out, hyo]
                subst hs
                have hdo : decide (y.base ≤ off) = true := by simpa using hyo
                go_quiet (fail)
                go_wp2_with fail
                go_meet
                exact ⟨rfl, _, rfl⟩
              · have hs : skip = false := by rw [HSKIP.out]; simp [HY.out]; omega
                subst hs
                have hdo : decide (y.base ≤ off) = false := by simpa using hyo
                go_quiet (fail)
                go_wp2_with fail
                go_meet
                exact ⟨rfl, _, rfl⟩
            · have hd1 : decide ((k : Int) + 1 < (L.segs.length : Int)) = false := by simp; omega
              have hs : skip = false := by rw [HSKIP.out, List.getElem?_eq_none (by omega)]; simp
              subst hs
              go_quiet (fail)
              go_wp2_with fail
              go_meet
              exact ⟨rfl, _, rfl⟩
          case rest =>
            obtain ⟨rfl, nq, rfl⟩ := hcut
            have hdrop : L.segs.drop k = x :: L.segs.drop (k + 1) := by
              have h := HX.out
              rw [List.getElem?_eq_getElem hlt] at h
              rw [List.drop_eq_getElem_cons hlt, Option.some.inj h]
            have hhead : (L.segs.drop (k + 1)).head? = L.segs[k + 1]? := by rw [List.head?_drop]
            have HDROP := hid (And.intro hdrop hhead)
            have hfa : Fr (fun _ => False) W ((W.alloc (.cells #[.int .i64 x.base, .int .i64 x.bytes, .int .i64 x.entries, .slice ua x.marks.length uc] 147)).drewN nq) := ((Fr.refl _ W).alloc _).drewN nq
            have hxb : Blk ((W.alloc (.cells #[.int .i64 x.base, .int .i64 x.bytes, .int .i64 x.entries, .slice ua x.marks.length uc] 147)).drewN nq) W.heap.size #[.int .i64 x.base, .int .i64 x.bytes, .int .i64 x.entries, .slice ua x.marks.length uc] 147 := (Blk.new W _ _).drewN nq
            have hlt2 : W.heap.size < ((W.alloc (.cells #[.int .i64 x.base, .int .i64 x.bytes, .int .i64 x.entries, .slice ua x.marks.length uc] 147)).drewN nq).heap.size := hxb.lt
            generalize (W.alloc (.cells #[.int .i64 x.base, .int .i64 x.bytes, .int .i64 x.entries, .slice ua x.marks.length uc] 147)).drewN nq = Wa at *
            have HFA := hid hfa
            have HXB := hid hxb
            clear hdrop hhead hfa hxb
            cases skip with
            | true =>
              have hs : fetchAll D L.name off most.toNat (L.segs.drop k) out = fetchAll D L.name off most.toNat (L.segs.drop (k + 1)) out := by
                obtain ⟨e1, e2⟩ := HDROP.out
                have e3 := of_decide_eq_true HSKIP.out.symm
                rw [e1, fetchAll, if_pos (by rw [e2]; exact e3)]
              have HSAME := hid (HJ.out.same.trans hs)
              clear hs d0 d1 d2 d3 r0 r1 r2
              go_wp2_with fail
              exact ⟨L.segs.length - (k + 1), by have := HJ.out.num; omega, hJK _ _ _ ⟨k + 1, ks, out, rfl, rfl, rfl, rfl, rfl, rfl, rfl, rfl, rfl, rfl, rfl, rfl, rfl, rfl, by omega, HJ.out.mem.fr HFA.out, hfew, HSAME.out, (fun j hj => ⟨(HFA.out.block j (Array.getElem?_eq_some_iff.1 (HJ.out.dead j hj).1).1 (fun h => h)).trans (HJ.out.dead j hj).1, (HJ.out.dead j hj).2⟩), HJ.out.nodup⟩⟩
            | false =>
              have hs : fetchAll D L.name off most.toNat (L.segs.drop k) out = if (D.read (segName L.name x.base)).2 ≠ 0 then ([], (D.read (segName L.name x.base)).2) else
                  if (fetchSeg off most.toNat (rowL ((D.read (segName L.name x.base)).1.drop (fromL off x.marks).toNat)) out).2 then ((fetchSeg off most.toNat (rowL ((D.read (segName L.name x.base)).1.drop (fromL off x.marks).toNat)) out).1, 0)
                  else fetchAll D L.name off most.toNat (L.segs.drop (k + 1)) (fetchSeg off most.toNat (rowL ((D.read (segName L.name x.base)).1.drop (fromL off x.marks).toNat)) out).1 := by
                obtain ⟨e1, e2⟩ := HDROP.out
                have e3 := of_decide_eq_false HSKIP.out.symm
                rw [e1, fetchAll, if_neg (by rw [e2]; exact e3)]
              have HSAME := hid (HJ.out.same.trans hs)
              have hposx := HPOS.out x (List.mem_of_getElem? HX.out)
              have hbasex := hwl.base x (List.mem_of_getElem? HX.out)
              have hname := hwl.name
              have hsl : (segName L.name x.base).length ≤ 1099511627776 := by unfold segName; simp [digs_len]; omega
              have lift : ∀ (b o : Nat) (v : Value), W.cell? ⟨b, o, none⟩ = some v → Wa.cell? ⟨b, o, none⟩ = some v := fun b o v h => (World.cell?_of_block (HFA.out.block b (World.block_lt_of_cell? W _ h) (fun h => h))).trans h
              have a0 := lift _ _ _ r0
              have a1 := lift _ _ _ r1
              have a4 := HXB.out.cell (i := 0) (v := .int .i64 x.base) rfl
              have hdW : DiskAt Wa d SD D := (HD.out.below HBW.out).fr HFA.out (fun _ _ h => h)
              have HDW := hid hdW
              have HPX := hid hposx
              have hllA : l < Wa.heap.size := by have := HFA.out.size; omega
              have hllD : d < Wa.heap.size := by
                obtain ⟨m, fs, h9, _⟩ := hdW
                exact h9.hdr.lt
              clear hs d0 d1 d2 d3 r0 r1 r2 lift hdW hposx
              go_upto_region 12 with fail
              go_cut [83, 11, 12] from 84 to 95 (fun _ v11 v12 wx => v11 = .string (bs (D.read (segName L.name x.base)).1) ∧ v12 = .int .i64 (D.read (segName L.name x.base)).2 ∧ Fr (fun _ => False) Wa wx)
              case first =>
                go_region_held3 (fun w' => w'.cell? ⟨l, 0, none⟩ = some (.pointer (some ⟨d, 0, none⟩)) ∧ w'.cell? ⟨W.heap.size, 0, none⟩ = some (.int .i64 x.base))
                  (go_keep)
                  ((first
                    | (go_at_call 72; refine (file_any l L.name x.base _ ?_ (by omega) hbasex.1 (by omega)).mono ?_; (go_simp); rintro e w2 ⟨rfl, hb2⟩; have d20 : w2.cell? ⟨l, 0, none⟩ = some (.pointer (some ⟨d, 0, none⟩)) := (hb2.cell (by (try simp); omega)).trans (by go_simp); have d22 : w2.cell? ⟨W.heap.size, 0, none⟩ = some (.int .i64 x.base) := (hb2.cell (by (try simp); omega)).trans (by go_simp); have HB2 := hid (show Fr (fun _ => False) Wa w2 from ((Fr.refl _ Wa).drewN 1).below hb2); have hz2 := hb2.size; (try simp at hz2))
                    | (go_at_call 71; refine (read_any d SD D N _ _ (HDW.out.fr HB2.out (fun _ _ h => h)) hw hsl).mono ?_; rintro e w3 ⟨rfl, hb3⟩; have d30 : w3.cell? ⟨l, 0, none⟩ = some (.pointer (some ⟨d, 0, none⟩)) := (hb3.cell (by (try simp); omega)).trans (by go_simp); have d32 : w3.cell? ⟨W.heap.size, 0, none⟩ = some (.int .i64 x.base) := (hb3.cell (by (try simp); omega)).trans (by go_simp); have hz3 := hb3.size; have HB3 := hid (HB2.out.below hb3))))
                go_wp2_with fail
                go_meet
                exact ⟨rfl, rfl, HB3.out⟩
              case rest =>
                rename World => Wb
                obtain ⟨rfl, rfl, hfb⟩ := hcut
                have hfull := HFA.out.trans hfb
                have hmem := HJ.out.mem.fr hfull
                have hdead : ∀ j ∈ ks, Wb.heap[j]? = some (.deferred (some [])) ∧ w.heap.size ≤ j := fun j hj => ⟨(hfull.block j (Array.getElem?_eq_some_iff.1 (HJ.out.dead j hj).1).1 (fun h => h)).trans (HJ.out.dead j hj).1, (HJ.out.dead j hj).2⟩
                have hxb := HXB.out.fr hfb (fun h => h)
                have hmarks : Reads Wb (.slice ua x.marks.length uc) x.marks.length 3 (markCells x.marks) := Reads.of_own (row_fr (row_fr (HR.out.marks k x _ HX.out HU.out) (Fr.of_below (S := fun _ => False) HBW.out) (fun _ _ h => h)) hfull (fun _ _ h => h))
                obtain ⟨x4, y0⟩ : Wb.cell? ⟨w.heap.size, 0, none⟩ = some (.int .i64 off) ∧ True := ⟨hmem.b0.cell rfl, trivial⟩
                have z0 := hxb.cell (i := 0) (v := .int .i64 x.base) rfl
                have z1 := hxb.cell (i := 1) (v := .int .i64 x.bytes) rfl
                have z2 := hxb.cell (i := 2) (v := .int .i64 x.entries) rfl
                have z3 := hxb.cell (i := 3) (v := .slice ua x.marks.length uc) rfl
                have g2 := hmem.b2.cell (i := 0) (v := .slice none 0 0) rfl
                have g3 := hmem.b3.cell (i := 0) (v := .int .i64 0) rfl
                have j2 := hmem.b2.free 0
                have j3 := hmem.b3.free 0
                have HFULL := hid hfull
                have HMEMB := hid hmem
                have HDEAD := hid hdead
                have HMK := hid hmarks
                have hml := (hwl.marks x (List.mem_of_getElem? HX.out)).1
                clear hfull hmem hdead hmarks hxb hfb a0 a1 a4 y0
                have htxl : (D.read (segName L.name x.base)).1.length ≤ 2097152 := PDisk.read_len hw _
                generalize hrd1 : (D.read (segName L.name x.base)).1 = txt at *
                generalize hrd2 : (D.read (segName L.name x.base)).2 = re at *
                clear hrd1 hrd2
                by_cases hre : re = 0
                · have hz : (re != 0) = false := by simpa using hre
                  have hpx := HPX.out hre
                  have HRE := hid hre
                  have hsz : (bs txt).size = txt.length := rfl
                  clear hre
                  go_wp2_with fail
                  refine (from_any _ _ _ off _ x.marks HMK.out (by omega)).mono ?_
                  rintro e w4 ⟨rfl, hb4⟩
                  have hfb4 : Fr (fun _ => False) Wb w4 := Fr.of_below hb4
                  have x5 : w4.cell? ⟨w.heap.size, 0, none⟩ = some (.int .i64 off) := (hb4.cell (p := ⟨w.heap.size, 0, none⟩) (World.block_lt_of_cell? Wb _ x4)).trans x4
                  have HB4 := hid (HFULL.out.trans hfb4)
                  have HM4 := hid (HMEMB.out.fr hfb4)
                  have HB4b := hid hfb4
                  clear hb4 hfb4 z0 z1 z2 z3 g2 g3 j2 j3 x4
                  generalize hfr : fromL off x.marks = lo at *
                  have HLO := hid hfr
                  clear hfr
                  go_wp2_with fail
                  refine (each_any _ _).mono ?_
                  rintro e w5 ⟨rfl, rfl⟩
                  go_wp2_with fail
                  have hext : (bs txt).extract lo.toNat txt.length = bs (txt.drop lo.toNat) := by
                    have h := extract_drop (bs txt) lo.toNat
                    rw [hsz, tl_bs] at h
                    exact h
                  rw [hext]
                  obtain ⟨t, ht⟩ : ∃ t, t = txt.drop lo.toNat := ⟨_, rfl⟩
                  rw [← ht]
                  have htl : t.length ≤ txt.length := by rw [ht, List.length_drop]; omega
                  have hfx : Fr (fun _ => False) w4 (w4.alloc (.cells #[.string (bs t)] 9)) := (Fr.refl _ w4).alloc _
                  have hbx : Blk (w4.alloc (.cells #[.string (bs t)] 9)) w4.heap.size #[.string (bs t)] 9 := Blk.new w4 _ _
                  have hs5 : (w4.alloc (.cells #[.string (bs t)] 9)).heap.size = w4.heap.size + 1 := by simp
                  have HT := hid ht
                  have hR0 : FetchR w p1 p2 p3 p4 off most ks w4.heap.size out (w4.alloc (.cells #[.string (bs t)] 9)) := by
                    obtain ⟨b0, b1, b2, b3, ⟨v, b4, ho⟩, hb, e1, e2, e3, e4⟩ := HM4.out
                    have hlt4 := b4.lt
                    refine ⟨b0.fr hfx (fun h => h), b1.fr hfx (fun h => h), b2.fr hfx (fun h => h), b3.fr hfx (fun h => h), ⟨v, b4.fr hfx (fun h => h), row_fr ho hfx (fun _ _ h => h), fun j hj => .inl (ho.lt j hj).2⟩, hb.trans (hfx.to_below hb.size (fun _ _ h => h)), ⟨e1, e2, e3, e4, by omega⟩, fun j hj => ?_⟩
                    have hdj := HDEAD.out j hj
                    have hbj := HB4b.out.block j (Array.getElem?_eq_some_iff.1 hdj.1).1 (fun h => h)
                    have h4 : w4.heap[j]? = some (.deferred (some [])) := hbj.trans hdj.1
                    have hl4 := (Array.getElem?_eq_some_iff.1 h4).1
                    exact ⟨(hfx.block j hl4 (fun h => h)).trans h4, hdj.2, hl4⟩
                  generalize w4.alloc (.cells #[.string (bs t)] 9) = W5 at *
                  have HR0 := hid hR0
                  have HBX := hid hbx
                  have HS5 := hid hs5
                  clear hext ht hR0
                  refine (wpIn_wide (n := 9)).1 ?_
                  refine wpIn_range (F := Fence.wide) rfl (by decide) (gf := 104) (lb := #[.pointer (some ⟨w4.heap.size, 0, none⟩)]) rfl trivial (enters_of Tryz.func104 (by kernel_rfl) rfl)
                    (each_it _ w4.heap.size t W5 (by omega) hbx) (by rintro k rfl; omega) (fun _ => rfl)
                    (fun pre W6 => ∃ o rest, rowL t = pre ++ rest ∧ fetchSeg off most.toNat (rowL t) out = fetchSeg off most.toNat rest o ∧ (o.length : Int) < most ∧ FetchR w p1 p2 p3 p4 off most ks w4.heap.size o W6)
                    (fun c _ W6 => c = .ret ∧ ∃ o, fetchSeg off most.toNat (rowL t) out = (o, true) ∧ FetchX w p2 p3 ks w4.heap.size o W6)
                    ?hI ?hIx ?h0 ?hround ?hdone ?hstop
                  case hI =>
                    rintro pre A B ⟨o, rest, h1, h2, h3, h4⟩ hf
                    exact ⟨o, rest, h1, h2, h3, h4.keep HS5.out hf⟩
                  case hIx =>
                    rintro c pre A B ⟨h1, o, h2, h3⟩ hf
                    exact ⟨h1, o, h2, h3.keep HS5.out hf⟩
                  case h0 =>
                    intro W6 hb6 _
                    exact ⟨out, rowL t, rfl, rfl, hfew, HR0.out.keep HS5.out (Fr.of_below hb6)⟩
                  case hround =>
                    rintro pre ⟨m, y⟩ W6 hpre ⟨o, rest, h1, h2, h3, ⟨b0, b1, b2, b3, ⟨v, b4, ho, hv⟩, hb, hp, hd⟩⟩ hs2
                    obtain ⟨q, hq⟩ := hpre
                    have hrest : rest = (m, y) :: q := by
                      rw [h1, List.append_assoc] at hq
                      simpa using (List.append_cancel_left hq).symm
                    have hyok : y.ok := rowL_okF t _ (Nat.le_refl _) (m, y) (by rw [← hq]; simp)
                    obtain ⟨y1, y2, y3, y4, y5⟩ := hyok
                    subst hrest
                    rw [fetchSeg_step] at h2
                    have HQ := hid hq
                    have H2 := hid h2
                    have HO := hid ho
                    have HV := hid hv
                    have HDD := hid hd
                    have HPL := hid hp
                    have H3 := hid h3
                    have HBB := hid (And.intro b0 (And.intro b1 (And.intro b2 (And.intro b3 (And.intro b4 hb)))))
                    clear hq h1 h2 ho hv hd hp h3 b0 b1 b2 b3 b4 hb
                    unfold eachEnc
                    gi_wp2
                    refine ⟨Kept.of_fr ((Fr.refl (fun _ => False) W6).alloc _) (fun _ _ h => h), ?_⟩
                    intro W7 hf7
                    have hyb7 : Blk W7 W6.heap.size #[.int .i64 y.base, .int .i64 y.n, .string (bs y.text)] 103 := (Blk.new W6 _ _).fr hf7 (by omega)
                    have hR7 : FetchR w p1 p2 p3 p4 off most ks w4.heap.size o W7 ∧ Blk W7 p4 #[v] 99 ∧ W7.ownsRow w.heap.size 103 3 v o.length (entCells o) := by
                      obtain ⟨b0, b1, b2, b3, b4, hb⟩ := HBB.out
                      have hfy : Fr (fun _ => False) W6 (W6.alloc (.cells #[.int .i64 y.base, .int .i64 y.n, .string (bs y.text)] 103)) := (Fr.refl _ W6).alloc _
                      have hg7 : Fr (fun k => k = W5.heap.size + 1) W6 W7 := (hfy.mono (fun _ _ h => h.elim)).trans hf7
                      have hpl := HPL.out
                      have hs5 := HS5.out
                      have c4 := b4.fr hg7 (by omega)
                      have ho7 := row_fr HO.out hg7 (fun k hk => by have := HV.out k hk; omega)
                      exact ⟨⟨b0.fr hg7 (by omega), b1.fr hg7 (by omega), b2.fr hg7 (by omega), b3.fr hg7 (by omega), ⟨v, c4, ho7, HV.out⟩, hb.trans (hg7.to_below hb.size (fun k hk => by omega)), hpl, dead_fr HDD.out hg7 (fun j hj => by have := (HDD.out j hj).2; omega)⟩, c4, ho7⟩
                    obtain ⟨hR7, b47, ho7⟩ := hR7
                    obtain ⟨vd, vc, rfl⟩ := row_slice ho7
                    have hs7 := hf7.size
                    simp at hs7
                    obtain ⟨c0, c1, c2, _, _, _⟩ := hyb7.c3
                    have a0 := hR7.b0.cell (i := 0) (v := .int .i64 off) rfl
                    have a1 := hR7.b1.cell (i := 0) (v := .int .i64 most) rfl
                    have a2 := hR7.b2.cell (i := 0) (v := .slice none 0 0) rfl
                    have a3 := hR7.b3.cell (i := 0) (v := .int .i64 0) rfl
                    have a4 := b47.cell (i := 0) (v := .slice vd o.length vc) rfl
                    have f2 := hR7.b2.free 0
                    have f3 := hR7.b3.free 0
                    have f4 := b47.free 0
                    have l0 := hR7.b0.lt
                    have l1 := hR7.b1.lt
                    have l2 := hR7.b2.lt
                    have l3 := hR7.b3.lt
                    have l4 := b47.lt
                    have hsum : IntKind.i64.wrap (y.base + y.n) = y.base + y.n := IntWalk.i64_in _ (by omega)
                    have HR7 := hid hR7
                    have HB47 := hid b47
                    have HO7 := hid ho7
                    have HF7 := hid hf7
                    have h33 := H3.out
                    clear hR7 b47 ho7 hf7 hyb7
                    by_cases hoy : off < y.base + y.n
                    · have HOY := hid hoy
                      gi_wp2_with (gi_at_builtin; refine wpListIn_append_at _ rfl _ _ 99 rfl w.heap.size 103 i0 (.agg #[.int .i64 0, .int .i64 0, .string ⟨#[]⟩]) 3 32 Tryz.underlying99 hi hz0 hz1 hz2 rfl (by decide) _ _ _ rfl (HO7.out.alloc _) ⟨W7.heap.size, 0, none⟩ 1 1 [.int .i64 y.base, .int .i64 y.n, .string (bs y.text)] rfl rfl (cells_new _ _ _) ?c2 ?c3 ?c4 ?c5 ?_)
                      case c2 => simp [Value.oneCell']
                      case c3 => unfold maxLen; omega
                      case c4 => omega
                      case c5 => simp; omega
                      intro v' W8 hown' hgrow hat
                      obtain ⟨hR9, hF9, hF8, hB9⟩ := FetchR.push HR7.out HB47.out HO7.out HV.out (by have := HS5.out; omega) y hown' hgrow (hat.imp id (fun e => by rw [e]; simp))
                      obtain ⟨g', cap', rfl⟩ := ownsRow_succ hown'
                      have b48 := HB47.out.fr hF8 (own_kind_ne HO7.out HB47.out (by decide))
                      have e4 := b48.cell (i := 0) (v := .slice vd o.length vc) rfl
                      have k4 := b48.free 0
                      have hl8 := b48.lt
                      have HR9 := hid hR9
                      have HF9 := hid hF9
                      have HB9 := hid hB9
                      clear hown' hgrow hat hR9 hF9 hF8 hB9 b48 a0 a1 a2 a3 a4 f2 f3 f4 c0 c1 c2
                      gi_upto_region 19 with fail
                      have hR9 := HR9.out
                      have hB9 := HB9.out
                      have hF9 := HF9.out
                      clear HR9 HB9 HF9
                      generalize W8.setCell ⟨p4, 0, none⟩ (.slice (some ⟨g', 0, none⟩) (o.length + 1) cap') = W9 at *
                      have a1 := hR9.b1.cell (i := 0) (v := .int .i64 most) rfl
                      have a2 := hR9.b2.cell (i := 0) (v := .slice none 0 0) rfl
                      have a3 := hR9.b3.cell (i := 0) (v := .int .i64 0) rfl
                      have a4 := hB9.cell (i := 0) (v := .slice (some ⟨g', 0, none⟩) (o.length + 1) cap') rfl
                      have f2 := hR9.b2.free 0
                      have f3 := hR9.b3.free 0
                      have l2 := hR9.b2.lt
                      have l3 := hR9.b3.lt
                      have HR9 := hid hR9
                      have HB9 := hid hB9
                      have HF9 := hid hF9
                      clear hR9 hB9 hF9 e4 k4
                      by_cases hom : (o.length : Int) + 1 = most
                      · have hq : ((o.length : Int) + 1 == most) = true := by simpa using hom
                        have HOM := hid hom
                        clear hom
                        gi_wp2
                        obtain ⟨hX, hFX⟩ := HR9.out.done HB9.out
                        refine ⟨?_, rfl, o ++ [y], ?_, hX⟩
                        · refine Kept.of_fr ((HF9.out.mono (S' := fun k => k = p4 ∨ (Value.slice vd o.length vc).ownBlock = some k ∨ k = p2 ∨ k = p3) (fun k _ e => e.elim .inl (fun e => .inr (.inl e)))).trans (hFX.mono (fun k _ e => .inr (.inr e)))) ?_
                          rintro k hk (e | e | e | e)
                          · have := HPL.out; have := HS5.out; omega
                          · have := HV.out k e; have := HS5.out; omega
                          · have := HPL.out; have := HS5.out; omega
                          · have := HPL.out; have := HS5.out; omega
                        · rw [H2.out, if_pos HOY.out, if_pos (by have := HOM.out; simp; omega)]
                      · have hq : ((o.length : Int) + 1 == most) = false := by simpa using hom
                        have HOM := hid hom
                        clear hom
                        gi_wp2
                        refine ⟨?_, o ++ [y], q, by rw [← HQ.out], ?_, ?_, HR9.out⟩
                        · refine Kept.of_fr HF9.out ?_
                          rintro k hk (e | e)
                          · have := HPL.out; have := HS5.out; omega
                          · have := HV.out k e; have := HS5.out; omega
                        · rw [H2.out, if_pos HOY.out, if_neg (by have := HOM.out; simp; omega)]
                        · have := HOM.out; simp; omega
                    · have HOY := hid hoy
                      have hq : ((o.length : Int) == most) = false := by simp; omega
                      gi_wp2
                      refine ⟨Kept.refl _ _, o, q, by rw [← HQ.out], ?_, h33, HR7.out⟩
                      have hno : ¬ off < y.base + y.n := by have := HOY.out; omega
                      have hno2 : ¬ o.length = most.toNat := by omega
                      rw [H2.out, if_neg hno, if_neg hno2]
                  case hdone =>
                    rintro W6 ⟨o, rest, h1, h2, h3, h4⟩ hD
                    have hr0 : rest = [] := by simpa using h1
                    subst hr0
                    have hsame := HSAME.out
                    rw [if_neg (fun h => h HRE.out), ← HT.out, h2] at hsame
                    simp only [fetchSeg, Bool.false_eq_true, if_false] at hsame
                    have HS6 := hid hsame
                    have HR6 := hid h4
                    have HD6 := hid hD
                    have H36 := hid h3
                    clear h1 h2 h3 h4 hD hsame
                    go_wp2_with fail
                    obtain ⟨b0, b1, b2, b3, ⟨v, b4, ho, hv⟩, hb, hp, hd⟩ := HR6.out
                    refine ⟨L.segs.length - (k + 1), by have := HJ.out.num; omega, hJK _ _ _ ⟨k + 1, W5.heap.size :: ks, o, rfl, rfl, rfl, rfl, rfl, rfl, rfl, rfl, rfl, rfl, rfl, rfl, rfl, rfl, by omega, ⟨b0, b1, b2, b3, ⟨v, b4, ho⟩, hb, hp.1, hp.2.1, hp.2.2.1, hp.2.2.2.1⟩, H36.out, HS6.out, ?_, ?_⟩⟩
                    · intro j hj
                      rcases List.mem_cons.1 hj with rfl | hj
                      · exact ⟨HD6.out, by have := HS5.out; omega⟩
                      · exact ⟨(hd j hj).1, (hd j hj).2.1⟩
                    · refine List.nodup_cons.2 ⟨fun hj => ?_, HJ.out.nodup⟩
                      have h9 := (hd _ hj).2.2
                      have h8 := HS5.out
                      omega
                  case hstop =>
                    rintro c pre W6 hpre ⟨rfl, o, h1, ⟨v, b2, ho, hv⟩, b3, hb, hp, hd⟩ hD
                    have hsame := HSAME.out
                    rw [if_neg (fun h => h HRE.out), ← HT.out, h1] at hsame
                    simp only [if_true] at hsame
                    have hres : L.fetch D off most = (o, 0) := HFETCH.out.trans hsame
                    refine wpIn_wide.2 (wp_ret ?_)
                    obtain ⟨e2, e3, e5⟩ := hp
                    rw [e2] at b2
                    rw [e3] at b3
                    refine fetch_fin _ (W5.heap.size :: ks) v (L.fetch D off most) (by rw [← e2]; rfl) (by rw [← e3]; rfl) b2 (by rw [hres]; exact b3) (by rw [hres]; exact ho) hb ?_ ?_
                    · intro j hj
                      rcases List.mem_cons.1 hj with rfl | hj
                      · exact ⟨hD, by have := HS5.out; omega⟩
                      · exact ⟨(hd j hj).1, (hd j hj).2.1⟩
                    · refine List.nodup_cons.2 ⟨fun hj => ?_, HJ.out.nodup⟩
                      have h9 := (hd _ hj).2.2
                      have h8 := HS5.out
                      omega
                · have hz : (re != 0) = true := by simpa using hre
                  have hz2 : (re == 0) = false := by simpa using hre
                  have HRE := hid hre
                  clear hre
                  go_wp2_with fail
                  refine fetch_bad HMEMB.out _ ks _ re ?_ rfl rfl HDEAD.out HJ.out.nodup
                  rw [HFETCH.out, HSAME.out, if_pos HRE.out]
        · obtain rfl : k = L.segs.length := by omega
          have hsame := HJ.out.same
          rw [List.drop_length, fetchAll] at hsame
          have hres : L.fetch D off most = (out, 0) := HFETCH.out.trans hsame
          obtain ⟨b0, b1, b2, b3, ⟨v, b4, ho⟩, hb, e1, e2, e3, e4⟩ := HJ.out.mem
          obtain ⟨vd, vc, rfl⟩ := row_slice ho
          have a2 := b2.cell (i := 0) (v := .slice none 0 0) rfl
          have a3 := b3.cell (i := 0) (v := .int .i64 0) rfl
          have a4 := b4.cell (i := 0) (v := .slice vd out.length vc) rfl
          have f2 := b2.free 0
          have f3 := b3.free 0
          have l2 := b2.lt
          have l3 := b3.lt
          have HALL := hid (And.intro b2 (And.intro b3 (And.intro ho (And.intro hb (And.intro e2 e3)))))
          have HRES := hid hres
          clear hsame hres b0 b1 b2 b3 b4 ho hb e1 e2 e3 e4 hfew
          go_wp2_with fail
          obtain ⟨b2, b3, ho, hb, e2, e3⟩ := HALL.out
          have hdead := HJ.out.dead
          have hf : Fr (fun j => j = p2 ∨ j = p3) W ((W.setCell ⟨p2, 0, none⟩ (.slice vd out.length vc)).setCell ⟨p3, 0, none⟩ (.int .i64 0)) := Fr.setCell (p := ⟨p3, 0, none⟩) (Fr.setCell (p := ⟨p2, 0, none⟩) (Fr.refl _ W) (.inl (.inl rfl)) _) (.inl (.inr rfl)) _
          have hnd : ∀ (b : Nat) (c : Array Value) (T : TypeId), Blk W b c T → ∀ j ∈ ks, j ≠ b := by
            rintro b c T hB j hj rfl
            have := (hdead j hj).1
            unfold Blk at hB
            rw [hB] at this
            cases this
          have m2 := hnd _ _ _ b2
          have m3 := hnd _ _ _ b3
          have b2' := (b2.set 0 (.slice vd out.length vc)).other (b' := p3) (by omega) 0 (.int .i64 0)
          have b3' := (b3.other (b' := p2) (by omega) 0 (.slice vd out.length vc)).set 0 (.int .i64 0)
          have ho' := row_fr ho hf (fun j hj e => e.elim (fun e => own_kind_ne ho b2 (by decide) (e ▸ hj)) (fun e => own_kind_ne ho b3 (by decide) (e ▸ hj)))
          have hb' := (hb.setCell (show w.heap.size ≤ (⟨p2, 0, none⟩ : Addr).block by show w.heap.size ≤ p2; omega) (.slice vd out.length vc)).setCell (show w.heap.size ≤ (⟨p3, 0, none⟩ : Addr).block by show w.heap.size ≤ p3; omega) (.int .i64 0)
          have hdead' : ∀ j ∈ ks, ((W.setCell ⟨p2, 0, none⟩ (.slice vd out.length vc)).setCell ⟨p3, 0, none⟩ (.int .i64 0)).heap[j]? = some (.deferred (some [])) ∧ w.heap.size ≤ j := fun j hj =>
            ⟨(hf.block j (Array.getElem?_eq_some_iff.1 (hdead j hj).1).1 (fun e => e.elim (m2 j hj) (m3 j hj))).trans (hdead j hj).1, (hdead j hj).2⟩
          generalize (W.setCell ⟨p2, 0, none⟩ (.slice vd out.length vc)).setCell ⟨p3, 0, none⟩ (.int .i64 0) = Wf at *
          rw [e2] at b2'
          rw [e3] at b3'
          exact fetch_fin _ ks (.slice vd out.length vc) (L.fetch D off most) (by rw [← e2]; rfl) (by rw [← e3]; rfl) b2' (by rw [HRES.out]; exact b3') (by rw [HRES.out]; exact ho') hb' hdead' HJ.out.nodup
    · have HF : Hid (L.fetch D off most = ([], L.e)) := hid (by unfold PLog.fetch; rw [if_neg HM.out, if_pos he])
      have hen : (L.e != 0) = true := by simpa using he
      have hen2 : (L.e == 0) = false := by simpa using he
      have HE := hid he
      clear he
      go_wp2_with fail
      refine wp_normal ?_
      go_region
      all_goals
        go_wp2_with fail
        exact HBAD.out W1.drew _ _ HF.out ((Fr.refl _ W1).drew) rfl rfl

end Go.Proofs.YtgjkjkeeblbjlaaGreatDoor

namespace Go.Proofs.YtgjkjkeeblbjlaaGreatDoor
open Go.RowKit

theorem log_stays {w : World} {l d : Nat} {S SD : Nat → Prop} {L : PLog} {D : PDisk} (h : LogAt w l d S L) (hd : DiskAt w d SD D) : LogTo w w l d S SD L D := LogTo.of_below h hd (Below.refl _ _)

set_option maxHeartbeats 1000000 in
theorem append_none {w : World} {l d : Nat} {S SD : Nat → Prop} {L : PLog} {D : PDisk} (iv : Value) (h : LogAt w l d S L) (hd : DiskAt w d SD D) (hit : Reads w iv 0 2 []) :
    Calls Tryz.prog 58 #[ptr l, iv] w (AppPost w l d S SD (L.append D [])) := by
  have HL := hid h
  have HD := hid hd
  obtain ⟨_, ad, cap, rfl, _⟩ := hit
  obtain ⟨ms, sv, h, _⟩ := h
  obtain ⟨c0, c1, c2, c3, c4, c5, c6⟩ := h.cells
  clear h hd
  unfold ptr
  go_enter Tryz.func58, Tryz.ntmps58
  go_wp2_with fail
  go_ret2
  exact ⟨rfl, log_stays HL.out HD.out⟩

set_option maxHeartbeats 1000000 in
theorem append_broken {w : World} {l d : Nat} {S SD : Nat → Prop} {L : PLog} {D : PDisk} (iv : Value) (its : List PItem) (h : LogAt w l d S L) (hd : DiskAt w d SD D) (hit : Reads w iv its.length 2 (itemCells its)) (hne : its ≠ []) (he : L.e ≠ 0) :
    Calls Tryz.prog 58 #[ptr l, iv] w (AppPost w l d S SD (L.append D its)) := by
  have HL := hid h
  have HD := hid hd
  obtain ⟨_, ad, cap, rfl, _⟩ := hit
  have hpos : 0 < its.length := List.length_pos_iff.2 hne
  have HA : Hid (L.append D its = (L, D, 0, L.e)) := hid (by unfold PLog.append; rw [if_neg hne, if_pos he])
  obtain ⟨ms, sv, h, _⟩ := h
  obtain ⟨c0, c1, c2, c3, c4, c5, c6⟩ := h.cells
  have hz0 : ((its.length : Int) == 0) = false := beq_eq_false_iff_ne.2 (by omega)
  have hz1 : decide ((its.length : Int) = 0) = false := decide_eq_false (by omega)
  have he2 : (L.e != 0) = true := by simpa using he
  have he3 : (L.e == 0) = false := beq_eq_false_iff_ne.2 he
  have he4 : decide (L.e = 0) = false := decide_eq_false he
  clear h hd hne
  unfold ptr
  go_enter Tryz.func58, Tryz.ntmps58
  go_wp2_with fail
  go_quiet (fail)
  go_wp2_with fail
  go_ret2
  rw [HA.out]
  exact ⟨rfl, LogTo.of_below HL.out HD.out (bel_drewN _ _ _)⟩

theorem append_all {w : World} {l d : Nat} {S SD : Nat → Prop} {L : PLog} {D : PDisk} {N : Int} (iv : Value) (its : List PItem) (h : LogAt w l d S L) (hd : DiskAt w d SD D) (hw : D.WF N) (hwl : L.WF) (hit : Reads w iv its.length 2 (itemCells its)) (hcnt : its.length ≤ 64) (htx : ∀ x ∈ its, x.text.length ≤ 1099511627776) :
    Calls Tryz.prog 58 #[ptr l, iv] w (AppPost w l d S SD (L.append D its)) := by
  by_cases hne : its = []
  · subst hne
    exact append_none iv h hd hit
  · by_cases he : L.e = 0
    · exact append_first iv its h hd hw hwl hit hne he hcnt htx
    · exact append_broken iv its h hd hit hne he
end Go.Proofs.YtgjkjkeeblbjlaaGreatDoor

namespace Go.Proofs.YtgjkjkeeblbjlaaGreatDoor
open Go.RowKit

theorem PLog.append_disk {L : PLog} {D : PDisk} {N : Int} (h : D.WF N) (its : List PItem) : (L.append D its).2.1.WF N := by
  have hput : ∀ (L : PLog) (D : PDisk) (x : PSeg) (b : List PSeg) (e : List Ent) (nx : Int), D.WF N → (L.put D x b e nx).2.1.WF N := by
    intro L D x b e nx hD
    unfold PLog.put
    dsimp only
    split
    · exact hD.append _ _
    · split
      · exact hD.append _ _
      · exact hD.append _ _
  unfold PLog.append
  split
  · exact h
  split
  · exact h
  split
  · exact h
  unfold PLog.appendE
  split
  · exact hput _ _ _ _ _ _ h
  · split
    · exact hput _ _ _ _ _ _ h
    · dsimp only
      split
      · exact PLog.sync_disk h
      · exact hput _ _ _ _ _ _ (PLog.sync_disk h)
end Go.Proofs.YtgjkjkeeblbjlaaGreatDoor

namespace Go.Proofs.YtgjkjkeeblbjlaaGreatDoor
open Go.RowKit

/-- A log and its disk, all of it made since w. -/
structure LogIn (w wr : World) (ll d : Nat) (S SD : Nat → Prop) (L : PLog) (D : PDisk) : Prop where
  log : LogAt wr ll d S L
  disk : DiskAt wr d SD D
  s : ∀ i, S i → w.heap.size ≤ i
  sd : ∀ i, SD i → w.heap.size ≤ i
  bel : Below w.heap.size w wr

theorem LogIn.below {w wr w1 : World} {ll d : Nat} {S SD : Nat → Prop} {L : PLog} {D : PDisk} (h : LogIn w wr ll d S SD L D) (hb : Below wr.heap.size wr w1) : LogIn w w1 ll d S SD L D :=
  ⟨h.log.below hb, h.disk.below hb, h.s, h.sd, bel_next h.bel hb⟩

/-- What stays across a call on a log. -/
structure Keeps (wa w5 : World) : Prop where
  row : ∀ {base : Nat} {e : TypeId} {size : Nat} {v : Value} {n : Nat} {xs : List Value}, wa.ownsRow base e size v n xs → e ≠ 122 → e ≠ 147 → e ≠ 194 → e ≠ 96 → e ≠ 119 → w5.ownsRow base e size v n xs
  blk : ∀ {b : Nat} {c : Array Value} {T : TypeId}, Blk wa b c T → T ≠ 122 → T ≠ 147 → T ≠ 194 → T ≠ 96 → T ≠ 119 → Blk w5 b c T
  size : wa.heap.size ≤ w5.heap.size

theorem Keeps.of_below {wa w5 : World} (h : Below wa.heap.size wa w5) : Keeps wa w5 := ⟨fun h1 _ _ _ _ _ => own_bel h1 h, fun h1 _ _ _ _ _ => h1.below' h, h.size⟩
theorem Keeps.trans {a b c : World} (h : Keeps a b) (k : Keeps b c) : Keeps a c :=
  ⟨fun h1 a1 a2 a3 a4 a5 => k.row (h.row h1 a1 a2 a3 a4 a5) a1 a2 a3 a4 a5, fun h1 a1 a2 a3 a4 a5 => k.blk (h.blk h1 a1 a2 a3 a4 a5) a1 a2 a3 a4 a5, Nat.le_trans h.size k.size⟩

theorem LogIn.call {w wa w5 : World} {ll d : Nat} {S SD : Nat → Prop} {L L' : PLog} {D D' : PDisk} (h : LogIn w wa ll d S SD L D) (hto : LogTo wa w5 ll d S SD L' D') :
    (∃ S' SD', LogIn w w5 ll d S' SD' L' D') ∧ Keeps wa w5 := by
  obtain ⟨S5, SD5, hl5, hd5, hf5, hs5, hsd5⟩ := hto
  have hsz := h.bel.size
  refine ⟨⟨S5, SD5, hl5, hd5, fun i hi => ?_, fun i hi => ?_, ?_⟩, fun hr h1 h2 h3 h4 h5 => ?_, fun {b c T} hb h1 h2 h3 h4 h5 => ?_, hf5.size⟩
  · rcases hs5 i hi with h9 | h9
    · exact h.s i h9
    · omega
  · rcases hsd5 i hi with h9 | h9
    · exact h.sd i h9
    · omega
  · exact h.bel.trans (hf5.to_below hsz (fun i hi h9 => by
      rcases h9 with h9 | h9
      · have := h.s i h9; omega
      · have := h.sd i h9; omega))
  · exact row_fr hr hf5 (fun k hk h9 => by
      rcases h9 with h9 | h9
      · exact row_log hr h.log h1 h2 h3 k hk h9
      · exact row_disk hr h.disk h4 h5 k hk h9)
  · exact hb.fr hf5 (fun h9 => by
      have hb2 : wa.heap[b]? = some (.cells c T (0, 0)) := hb
      rcases h9 with h9 | h9
      · exact h.log.other hb2 h1 h2 h3 h9
      · exact h.disk.other hb h4 h5 h9)

theorem fr_grown {w w' : World} {row : Option Nat} (h : w.grownBy w' row) : Fr (fun k => row = some k) w w' :=
  ⟨h.os, h.tape, h.output, h.size, fun k hk hn => h.block k hk (fun e => hn e.symm)⟩

/-- A row of the caller's own grows: the log stays, and other blocks. -/
theorem LogIn.grown {w w5 wx w6 : World} {ll d : Nat} {S SD : Nat → Prop} {L : PLog} {D : PDisk} (h : LogIn w w5 ll d S SD L D) (ha : Below w5.heap.size w5 wx) {base : Nat} {e : TypeId} {size : Nat} {v : Value} {n : Nat} {xs : List Value} (hr : w5.ownsRow base e size v n xs) (hbase : w.heap.size ≤ base)
    (h1 : e ≠ 122) (h2 : e ≠ 147) (h3 : e ≠ 194) (h4 : e ≠ 96) (h5 : e ≠ 119) (hg : wx.grownBy w6 v.ownBlock) :
    LogIn w w6 ll d S SD L D ∧ ∀ {b : Nat} {c : Array Value} {T : TypeId}, Blk w5 b c T → T ≠ e → Blk w6 b c T := by
  have hf := fr_grown hg
  have hx := h.below ha
  have hrx := own_bel hr ha
  refine ⟨⟨hx.log.fr hf (fun k hk e => row_log hrx hx.log h1 h2 h3 k e hk), hx.disk.fr hf (fun k hk e => row_disk hrx hx.disk h4 h5 k e hk), h.s, h.sd, ?_⟩, fun {b c T} hb hT => ?_⟩
  · exact hx.bel.trans (hf.to_below hx.bel.size (fun i hi e => by have := (hr.lt i e).1; omega))
  · refine (hb.below' ha).fr hf (fun e => ?_)
    obtain ⟨c2, fz, hc⟩ := Lib.ownsRow_kind hr b e
    unfold Blk at hb
    rw [hb] at hc
    injection hc with hc
    injection hc with _ hc _
    exact hT hc
end Go.Proofs.YtgjkjkeeblbjlaaGreatDoor
