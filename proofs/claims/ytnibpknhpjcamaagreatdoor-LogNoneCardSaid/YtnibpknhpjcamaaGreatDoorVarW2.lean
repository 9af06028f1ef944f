/-
  The walks of package varint, texts and lists of integers (chapter 1). Conditions: texts that fit.
-/
import Derived.Test.YtnibpknhpjcamaaGreatDoorVarW
import Derived.Test.YtnibpknhpjcamaaGreatDoorLib
import Derived.Deep.RegionWith
set_option maxRecDepth 100000
namespace Go.Proofs.YtnibpknhpjcamaaGreatDoor
open Go.RowKit

theorem putL_len (n : Int) (h0 : -9223372036854775808 ≤ n) (h1 : n ≤ 9223372036854775807) : (putL n).length ≤ 10 := leb_len10 (zig_lt h0 h1)

/-- The encoding of a text. -/
def putTextL (s : List UInt8) : List UInt8 := putL s.length ++ s

set_option maxHeartbeats 400000 in
theorem putText_any (s : ByteArray) (w : World) (hs : s.size ≤ 140737488355328) :
    Calls Tryz.prog 90 #[.string s] w fun e w' => e = .returned (.string (bs (putTextL (tl s)))) ∧ Below w.heap.size w w' := by
  have hl : (bs (putL s.size)).size ≤ 10 := putL_len _ (by omega) (by omega)
  have hsum : (bs (putL s.size)).size + s.size ≤ 9223372036854775807 := by omega
  go_enter Tryz.func90, Tryz.ntmps90
  go_wp2_with fail
  refine (put_any _ _ (by omega) (by omega)).mono ?_
  rintro e w1 ⟨rfl, hb⟩
  go_wp2
  go_ret
  refine ⟨?_, hb⟩
  show Ending.returned (.string (bs (putL s.size) ++ s)) = _
  rw [← bs_tl s, bs_append, bs_size, tl_bs]
  rfl

/-- A text read out of bytes. -/
def takeTextL (l : List UInt8) (most : Int) : Option (List UInt8 × List UInt8) :=
  match takeL l 0 0 with
  | none => none
  | some (u, r) => if unzig u < 0 ∨ most < unzig u ∨ (r.length : Int) < unzig u then none else some (r.take (unzig u).toNat, r.drop (unzig u).toNat)

def takeTextV : Option (List UInt8 × List UInt8) → Value
  | none => .tuple #[.string (bs []), .string (bs []), .int .i64 2]
  | some (t, r) => .tuple #[.string (bs t), .string (bs r), .int .i64 0]

set_option maxHeartbeats 1000000 in
theorem takeText_any (s : ByteArray) (most : Int) (w : World) (hs : s.size ≤ 140737488355328) :
    Calls Tryz.prog 53 #[.string s, .int .i64 most] w fun e w' => e = .returned (takeTextV (takeTextL (tl s) most)) ∧ Below w.heap.size w w' := by
  cases ht : takeL (tl s) 0 0 with
  | none =>
    have HF : Hid (takeTextV (takeTextL (tl s) most) = .tuple #[.string (bs []), .string (bs []), .int .i64 2]) := by
      unfold takeTextL; rw [ht]; exact hid rfl
    have HT := hid ht
    clear ht
    go_enter Tryz.func53, Tryz.ntmps53
    go_wp2_with fail
    refine (take_none s _ hs HT.out).mono ?_
    rintro e w1 ⟨rfl, hb⟩
    go_wp2
    go_ret3
    exact ⟨by rw [HF.out]; rfl, hb⟩
  | some ur =>
    obtain ⟨u, r⟩ := ur
    have HT := hid ht
    have hbs : (bs r).size = r.length := rfl
    have hbound : (takeTextL (tl s) most) = if unzig u < 0 ∨ most < unzig u ∨ (r.length : Int) < unzig u then none else some (r.take (unzig u).toNat, r.drop (unzig u).toNat) := by
      unfold takeTextL; rw [ht]
    clear ht
    by_cases hc : unzig u < 0 ∨ most < unzig u ∨ (r.length : Int) < unzig u
    · have HF : Hid (takeTextV (takeTextL (tl s) most) = .tuple #[.string (bs []), .string (bs []), .int .i64 2]) := by
        rw [hbound, if_pos hc]; exact hid rfl
      clear hbound
      have htk := take_some s u r w hs HT.out
      generalize unzig u = n at *
      have HK := hid htk
      clear htk
      by_cases h1 : n < 0
      · clear hc
        go_enter Tryz.func53, Tryz.ntmps53
        go_wp2_with fail
        refine HK.out.mono ?_
        rintro e w1 ⟨rfl, hb⟩
        go_wp2
        go_ret3
        exact ⟨by rw [HF.out]; rfl, hb⟩
      · by_cases h2 : most < n
        · clear hc
          go_enter Tryz.func53, Tryz.ntmps53
          go_wp2_with fail
          refine HK.out.mono ?_
          rintro e w1 ⟨rfl, hb⟩
          go_wp2
          go_ret3
          exact ⟨by rw [HF.out]; rfl, hb⟩
        · have h3 : (r.length : Int) < n := by omega
          clear hc
          go_enter Tryz.func53, Tryz.ntmps53
          go_wp2_with fail
          refine HK.out.mono ?_
          rintro e w1 ⟨rfl, hb⟩
          go_wp2
          go_ret3
          exact ⟨by rw [HF.out]; rfl, hb⟩
    · have HF : Hid (takeTextV (takeTextL (tl s) most) = .tuple #[.string (bs (r.take (unzig u).toNat)), .string (bs (r.drop (unzig u).toNat)), .int .i64 0]) := by
        rw [hbound, if_neg hc]; exact hid rfl
      clear hbound
      have htk := take_some s u r w hs HT.out
      generalize unzig u = n at *
      have HK := hid htk
      clear htk
      obtain ⟨m, rfl⟩ : ∃ m : Nat, n = m := ⟨n.toNat, by omega⟩
      have h1 : ¬ (m : Int) < 0 := by omega
      have h2 : ¬ most < (m : Int) := by omega
      have h3 : ¬ (r.length : Int) < (m : Int) := by omega
      have h4 : m ≤ (bs r).size := by rw [hbs]; omega
      have e1 := extract_take (bs r) m
      have e2 := extract_drop (bs r) m
      rw [tl_bs] at e1 e2
      rw [hbs] at e2
      clear hc
      go_enter Tryz.func53, Tryz.ntmps53
      go_wp2_with fail
      refine HK.out.mono ?_
      rintro e w1 ⟨rfl, hb⟩
      go_wp2
      go_quiet (fail)
      go_wp2
      go_ret3
      exact ⟨by rw [HF.out]; rfl, hb.trans (bel_drewN _ _ _)⟩

/-- So many integers read out of bytes. -/
def takeAllL : Nat → List UInt8 → Option (List Int × List UInt8)
  | 0, l => some ([], l)
  | n + 1, l => match takeL l 0 0 with
    | none => none
    | some (u, r) => match takeAllL n r with
      | none => none
      | some (xs, r') => some (unzig u :: xs, r')

theorem Tryz.infoInt : (Tryz.prog.info? 3).map (fun i => (i.zero, i.size, i.bytes)) = some (some (.int .i64 0), 1, 8) := by kernel_rfl

def TakeAllPost (s : ByteArray) (n : Nat) (w : World) (e : Ending) (w' : World) : Prop :=
  Below w.heap.size w w' ∧ match takeAllL n (tl s) with
  | none => e = .returned (.tuple #[.slice none 0 0, .string ⟨#[]⟩, .int .i64 2])
  | some (xs, r) => ∃ v, e = .returned (.tuple #[v, .string (bs r), .int .i64 0]) ∧ w'.ownsRow w.heap.size 3 1 v n (xs.map (Value.int .i64)) ∧ xs.length = n

def withPre (xs : List Int) : Option (List Int × List UInt8) → Option (List Int × List UInt8)
  | none => none
  | some (ys, r) => some (xs ++ ys, r)

theorem takeAllL_step (n : Nat) (l : List UInt8) (u : Nat) (r : List UInt8) (xs : List Int) (ht : takeL l 0 0 = some (u, r)) :
    withPre xs (takeAllL (n + 1) l) = withPre (xs ++ [unzig u]) (takeAllL n r) := by
  rw [takeAllL]
  simp only [ht]
  cases takeAllL n r with
  | none => rfl
  | some yr => simp [withPre]

def TakeAllRel (s : ByteArray) (n : Nat) (w : World) (a v c : Value) (wr : World) : Prop :=
  ∃ (k : Nat) (s' : ByteArray) (xs : List Int), k ≤ n ∧ c = .int .i64 k ∧ a = .string s' ∧ s'.size ≤ s.size ∧ xs.length = k ∧
    wr.ownsRow w.heap.size 3 1 v k (xs.map (Value.int .i64)) ∧ Below w.heap.size w wr ∧
    takeAllL n (tl s) = withPre xs (takeAllL (n - k) (tl s'))

theorem takeL_len : ∀ (l : List UInt8) (k u v : Nat) (r : List UInt8), takeL l k u = some (v, r) → r.length < l.length := by
  intro l
  induction l with
  | nil => intro k u v r h; simp [takeL] at h
  | cons c l ih =>
    intro k u v r h
    rw [takeL] at h
    split at h
    · cases h
    · split at h
      · have := ih _ _ _ _ h; simp; omega
      · split at h
        · cases h
        · simp at h; obtain ⟨_, rfl⟩ := h; simp

set_option maxHeartbeats 1000000 in
theorem takeAll_any (s : ByteArray) (n : Nat) (w : World) (hs : s.size ≤ 140737488355328) (hn : n ≤ 64) :
    Calls Tryz.prog 55 #[.string s, .int .i64 n] w (TakeAllPost s n w) := by
  obtain ⟨i0, hi, hz0, hz1, hz2⟩ := info_parts Tryz.infoInt
  go_enter Tryz.func55, Tryz.ntmps55
  go_wp2_with fail
  go_loopw [0, 7, 18] (fun a v c wr => TakeAllRel s n w a v c wr) (fun _ _ c _ => n - (intOf c).toNat)
  case atStart =>
    refine ⟨0, s, [], by omega, rfl, rfl, Nat.le_refl _, rfl, World.ownsRow_nil _ _ _ _, Below.refl _ _, ?_⟩
    rw [Nat.sub_zero]
    cases takeAllL n (tl s) <;> rfl
  case round =>
    obtain ⟨k, s', xs, hk, rfl, rfl, hs', hxs, hown, hb, heq⟩ := hrel
    have HEQ := hid heq
    have HXS := hid hxs
    clear heq hxs
    by_cases hlt : k < n
    · cases ht : takeL (tl s') 0 0 with
      | none =>
        have HF : Hid (takeAllL n (tl s) = none) := by
          have h := HEQ.out
          rw [show n - k = (n - k - 1) + 1 from by omega, takeAllL, ht] at h
          exact h
        have HT := hid ht
        clear ht
        go_wp2_with fail
        refine (take_none s' _ (by omega) HT.out).mono ?_
        rintro e w1 ⟨rfl, hb1⟩
        go_wp2
        go_ret3
        exact ⟨hb.trans (hb1.mono hb.size), by rw [HF.out]; rfl⟩
      | some ur =>
        obtain ⟨u, r⟩ := ur
        have HT := hid ht
        have hlen := takeL_len _ _ _ _ _ ht
        rw [tl_len] at hlen
        have HF : Hid (takeAllL n (tl s) = withPre (xs ++ [unzig u]) (takeAllL (n - (k + 1)) r)) := by
          have h := HEQ.out
          rw [show n - k = (n - (k + 1)) + 1 from by omega, takeAllL_step _ _ _ _ _ ht] at h
          exact hid h
        clear ht
        go_wp2_with fail
        refine (take_some s' u r _ (by omega) HT.out).mono ?_
        rintro e w1 ⟨rfl, hb1⟩
        generalize unzig u = x at *
        have hown1 : w1.ownsRow w.heap.size 3 1 u7 k (xs.map (Value.int .i64)) := own_bel hown hb1
        have hsz := hb.size
        have hsz1 := hb1.size
        go_wp2_with (at_builtin; refine wpList_append_own _ rfl _ _ 64 rfl w.heap.size 3 i0 (.int .i64 0) 1 8 Tryz.underlying64 hi hz0 hz1 hz2 rfl (by decide) _ _ _ rfl (hown1.alloc _) ⟨w1.heap.size, 0, none⟩ 1 1 [.int .i64 x] rfl rfl ?c1 ?c2 ?c3 ?c4 ?c5 ?_)
        case c1 => exact cell_one_new _ _ _
        case c2 => simp [Value.oneCell']
        case c3 => unfold maxLen; omega
        case c4 => omega
        case c5 => simp; omega
        intro v' w2 hown2 hgrow _
        go_wp2
        go_roundw
        case rel =>
          refine ⟨k + 1, bs r, xs ++ [x], by omega, by go_num, rfl, ?_, by simp [HXS.out], ?_, ?_, by rw [tl_bs]; exact HF.out⟩
          · show r.length ≤ s.size; omega
          · rw [List.map_append]; exact hown2
          · exact bel_append ((hb.trans (hb1.mono hsz)).alloc (by omega) _) (hown1.alloc _) (by simp; omega) hgrow
        case measure => simp [intOf]; omega
    · have hkn : k = n := by omega
      have HF : Hid (takeAllL n (tl s) = some (xs, tl s')) := by
        have h := HEQ.out
        rw [show n - k = 0 from by omega, takeAllL] at h
        exact hid (by simpa [withPre] using h)
      go_wp2
      go_ret3
      refine ⟨hb, ?_⟩
      rw [HF.out]
      exact ⟨u7, by rw [bs_tl]; rfl, hkn ▸ hown, by rw [HXS.out, hkn]⟩

/-- The encodings of integers, one behind the other. -/
def putAllL (l : List Int) : List UInt8 := (l.map putL).flatten

theorem putAllL_len (l : List Int) (h : ∀ x ∈ l, -9223372036854775808 ≤ x ∧ x ≤ 9223372036854775807) : (putAllL l).length ≤ 10 * l.length := by
  induction l with
  | nil => simp [putAllL]
  | cons x l ih =>
    have h1 := putL_len x (h x (by simp)).1 (h x (by simp)).2
    have h2 := ih (fun y hy => h y (by simp [hy]))
    simp [putAllL] at h2 ⊢
    omega

def PutAllRel (w : World) (xs : List Int) (c : Value) (wr : World) : Prop :=
  ∃ k : Nat, k ≤ xs.length ∧ c = .int .i64 k ∧ Lib.IsBuilder 159 5 w.heap.size w.heap.size (Lib.byteCells (putAllL (xs.take k))) wr ∧ Below w.heap.size w wr

set_option maxHeartbeats 1000000 in
theorem putAll_any (b c : Nat) (xs : List Int) (w : World) (hxs : xs.length ≤ 1000000) (hr : ∀ x ∈ xs, -9223372036854775808 ≤ x ∧ x ≤ 9223372036854775807)
    (hc : ∀ i, i < xs.length → w.cell? ⟨b, i, none⟩ = some (.int .i64 (xs.getD i 0))) :
    Calls Tryz.prog 91 #[.slice (some ⟨b, 0, none⟩) xs.length c] w fun e w' => e = .returned (.string (bs (putAllL xs))) ∧ Below w.heap.size w w' := by
  have HR := hid hr
  have HC := hid hc
  clear hr hc
  go_enter Tryz.func91, Tryz.ntmps91
  go_wp2_with fail
  go_loopw [8] (fun c wr => PutAllRel w xs c wr) (fun c _ => xs.length - (intOf c).toNat)
  case atStart =>
    exact ⟨0, by omega, rfl, Lib.fresh_isBuilder _ _ _, (Below.refl _ _).alloc (Nat.le_refl _) _⟩
  case round =>
    obtain ⟨k, hk, rfl, hB, hb⟩ := hrel
    have HBu := hid hB
    clear hB
    by_cases hlt : k < xs.length
    · have hcell0 := HC.out k hlt
      have hbl : b < w.heap.size := World.block_lt_of_cell? w _ hcell0
      have hcell : wr.cell? ⟨b, k, none⟩ = some (.int .i64 (xs.getD k 0)) := (hb.cell (p := ⟨b, k, none⟩) hbl).trans hcell0
      clear hcell0
      obtain ⟨x, hx⟩ : ∃ x, x = xs.getD k 0 := ⟨_, rfl⟩
      have hmem : x ∈ xs := by rw [hx, List.getD_eq_getElem?_getD, List.getElem?_eq_getElem hlt]; exact List.getElem_mem hlt
      rw [← hx] at hcell
      have htake : putAllL (xs.take (k + 1)) = putAllL (xs.take k) ++ putL x := by
        rw [List.take_succ_eq_append_getElem hlt]
        have e : xs[k] = x := by rw [hx, List.getD_eq_getElem?_getD, List.getElem?_eq_getElem hlt]; rfl
        rw [e]; simp [putAllL]
      have hr := HR.out x hmem
      have hlen := putAllL_len (xs.take k) (fun y hy => HR.out y (List.mem_of_mem_take hy))
      rw [List.length_take] at hlen
      have HTK := hid htake
      have hpl := putL_len x hr.1 hr.2
      clear hx htake hmem
      go_wp2_with fail
      refine (put_any _ _ hr.1 hr.2).mono ?_
      rintro e w1 ⟨rfl, hb1⟩
      go_wp2_with fail
      have hsz := hb.size
      have hsz1 := hb1.size
      have hmin : min k xs.length ≤ 1000000 := by omega
      refine (Tryz.Builder_WriteString w.heap.size w.heap.size _ (bs (putL x)) w1 (isBuilder_bel HBu.out hb1) (by
        have e1 : (Lib.byteCells (putAllL (xs.take k))).length = (putAllL (xs.take k)).length := by simp [Lib.byteCells]
        have e2 : (bs (putL x)).size = (putL x).length := rfl
        omega) (by omega)).mono ?_
      rintro e w2 ⟨rfl, hB2, hb2⟩
      go_wp2
      go_roundw
      case rel =>
        refine ⟨k + 1, by omega, by go_num, ?_, (hb.trans (hb1.mono hsz)).trans hb2⟩
        rw [HTK.out]
        refine .inr ?_
        have e : Lib.byteCells (putAllL (xs.take k)) ++ Lib.strCells (bs (putL x)) = Lib.byteCells (putAllL (xs.take k) ++ putL x) := by
          simp [Lib.byteCells, Lib.strCells, bs]
        rw [← e]; exact hB2
      case measure => simp [intOf]; omega
    · have hkn : k = xs.length := by omega
      have HK := hid hkn
      clear hkn
      have hsz := hb.size
      go_wp2_with fail
      refine (Tryz.Builder_String_any w.heap.size w.heap.size (putAllL xs) wr (by
        have h := HBu.out
        rw [HK.out, List.take_length] at h
        exact h) (by omega)).mono ?_
      rintro e w2 ⟨rfl, hb2⟩
      go_wp2
      go_ret
      exact ⟨rfl, hb.trans hb2⟩

end Go.Proofs.YtnibpknhpjcamaaGreatDoor
