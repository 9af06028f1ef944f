/-
  Package frame (chapter 3): the frames of entries on lists of bytes, and the walks. Conditions: texts that fit.
  frame.Take (chapter 3): the entry with whose frame bytes begin: the plain function, and the walk. Conditions: texts that fit.
  A law for 'for .. := range f': over an iterator that may write some blocks of its own between two rounds. No conditions of our own.
  frame.Each and frame.Row (chapter 3): the entries of consecutive frames. Conditions: texts that fit.
  Frames on lists of bytes: what is laid is taken again; a frame that is cut off is none. No conditions.
-/
import Derived.Test.YtgjkjkeeblbjlaaGreatDoorGAM
import Derived.Deep.RegionHeld3
import Derived.Laws.ResultCell
import Derived.RangeFuncBound
import Derived.RangeFuncCalls
import Derived.RangeFuncLeaves
import Derived.RangeFuncNested
import Derived.OwnWalkIn
import Derived.TacticsInMore
import Derived.LoopNIn
import Derived.LoopIn
set_option maxRecDepth 100000
namespace Go.Proofs.YtgjkjkeeblbjlaaGreatDoor
open Go.RowKit

/-- An entry of a log. -/
structure Ent where
  base : Int
  n : Int
  text : List UInt8

/-- May it be? -/
def Ent.ok (e : Ent) : Prop := 0 ≤ e.base ∧ e.base ≤ 1099511627776 ∧ 1 ≤ e.n ∧ e.n ≤ 64 ∧ e.text.length ≤ 65536
instance (e : Ent) : Decidable e.ok := by unfold Ent.ok; exact inferInstance

/-- Its frame. -/
def Ent.lay (e : Ent) : List UInt8 := sealL (putTextL (putAllL [e.base, e.n] ++ e.text))

def Ent.val (e : Ent) : Value := .agg #[.int .i64 e.base, .int .i64 e.n, .string (bs e.text)]

theorem check_ok (b n : Int) (t : ByteArray) (w : World) (h1 : 0 ≤ b) (h2 : b ≤ 1099511627776) (h3 : 1 ≤ n) (h4 : n ≤ 64) (h5 : t.size ≤ 65536) :
    Calls Tryz.prog 116 #[.agg #[.int .i64 b, .int .i64 n, .string t]] w fun e w' => e = .returned (.int .i64 0) ∧ Below w.heap.size w w' := by
  go_enter Tryz.func116, Tryz.ntmps116
  go_wp2_with fail
  go_ret
  exact ⟨rfl, (Below.refl _ _).alloc (Nat.le_refl _) _⟩

set_option maxHeartbeats 1000000 in
theorem check_bad (b n : Int) (t : ByteArray) (w : World) (h : ¬ (0 ≤ b ∧ b ≤ 1099511627776 ∧ 1 ≤ n ∧ n ≤ 64 ∧ t.size ≤ 65536)) :
    Calls Tryz.prog 116 #[.agg #[.int .i64 b, .int .i64 n, .string t]] w fun e w' => e = .returned (.int .i64 1) ∧ Below w.heap.size w w' := by
  have H := hid h
  clear h
  go_enter Tryz.func116, Tryz.ntmps116
  go_wp2_with fail
  all_goals first
    | (have h := H.out; exfalso; apply h; refine ⟨?_, ?_, ?_, ?_, ?_⟩ <;> omega)
    | (go_ret; exact ⟨rfl, (Below.refl _ _).alloc (Nat.le_refl _) _⟩)

theorem Ent.lay_len (e : Ent) (h : e.ok) : e.lay.length ≤ 65536 + 100 := by
  obtain ⟨h1, h2, h3, h4, h5⟩ := h
  have hp : (putAllL [e.base, e.n]).length ≤ 20 := putAllL_len _ (by
    intro x hx
    simp at hx
    rcases hx with rfl | rfl <;> omega)
  have hq : (putL ((putAllL [e.base, e.n] ++ e.text).length : Int)).length ≤ 10 := putL_len _ (by omega) (by simp; omega)
  unfold Ent.lay sealL putTextL
  simp [sum4_len] at hq ⊢
  omega

theorem putAll2 (b c : Nat) (x y : Int) (w : World) (hx : -9223372036854775808 ≤ x ∧ x ≤ 9223372036854775807) (hy : -9223372036854775808 ≤ y ∧ y ≤ 9223372036854775807)
    (h0 : w.cell? ⟨b, 0, none⟩ = some (.int .i64 x)) (h1 : w.cell? ⟨b, 1, none⟩ = some (.int .i64 y)) :
    Calls Tryz.prog 88 #[.slice (some ⟨b, 0, none⟩) 2 c] w fun e w' => e = .returned (.string (bs (putAllL [x, y]))) ∧ Below w.heap.size w w' :=
  putAll_any b c [x, y] w (by simp) (by
    intro z hz
    simp at hz
    rcases hz with rfl | rfl
    · exact hx
    · exact hy) (by
    intro i hi
    rcases i with _ | _ | i
    · exact h0
    · exact h1
    · exact absurd hi (by simp))

theorem seal_bs (l : List UInt8) (w : World) (hs : l.length ≤ 140737488355000) :
    Calls Tryz.prog 117 #[.string (bs l)] w fun e w' => e = .returned (.string (bs (sealL l))) ∧ Below w.heap.size w w' := by
  have h := seal_any (bs l) w (by rw [bs_size]; exact hs)
  rw [tl_bs] at h
  exact h

theorem putText_bs (l : List UInt8) (w : World) (hs : l.length ≤ 140737488355328) :
    Calls Tryz.prog 115 #[.string (bs l)] w fun e w' => e = .returned (.string (bs (putTextL l))) ∧ Below w.heap.size w w' := by
  have h := putText_any (bs l) w (by rw [bs_size]; exact hs)
  rw [tl_bs] at h
  exact h

theorem putText_cat (a b : List UInt8) (w : World) (hs : (a ++ b).length ≤ 140737488355328) :
    Calls Tryz.prog 115 #[.string (bs a ++ bs b)] w fun e w' => e = .returned (.string (bs (putTextL (a ++ b)))) ∧ Below w.heap.size w w' := by
  rw [bs_append]; exact putText_bs _ w hs

set_option maxHeartbeats 1000000 in
theorem lay_ok (x : Ent) (w : World) (h : x.ok) :
    Calls Tryz.prog 91 #[x.val] w fun r w' => r = .returned (.tuple #[.string (bs x.lay), .int .i64 0]) ∧ Below w.heap.size w w' := by
  obtain ⟨b, n, t⟩ := x
  unfold Ent.val
  obtain ⟨h1, h2, h3, h4, h5⟩ := h
  simp only at h1 h2 h3 h4 h5 ⊢
  go_enter Tryz.func91, Tryz.ntmps91
  go_wp2_with fail
  refine (check_ok _ _ _ _ h1 h2 h3 h4 (by rw [bs_size]; exact h5)).mono ?_
  rintro e w1 ⟨rfl, hb⟩
  go_wp2_with fail
  have hblk : Blk w1 w.heap.size #[.int .i64 b, .int .i64 n, .string (bs t)] 103 := (Blk.new _ _ _).below' hb
  have c0 := hblk.cell (i := 0) (v := .int .i64 b) rfl
  have c1 := hblk.cell (i := 1) (v := .int .i64 n) rfl
  have c2 := hblk.cell (i := 2) (v := .string (bs t)) rfl
  have hlt := hblk.lt
  have hp : (putAllL [b, n]).length ≤ 20 := putAllL_len _ (by
    intro x hx
    simp at hx
    rcases hx with rfl | rfl <;> omega)
  have hsum : (bs (putAllL [b, n])).size + (bs t).size ≤ 9223372036854775807 := by rw [bs_size, bs_size]; omega
  have hsum2 : ¬ 9223372036854775807 < (bs (putAllL [b, n])).size + (bs t).size := by omega
  have hl1 : (putAllL [b, n] ++ t).length ≤ 65556 := by rw [List.length_append]; omega
  have hl2 : (putTextL (putAllL [b, n] ++ t)).length ≤ 65566 := by
    have hq : (putL ((putAllL [b, n] ++ t).length : Int)).length ≤ 10 := putL_len _ (by omega) (by omega)
    unfold putTextL
    rw [List.length_append]; omega
  go_region_held3 (fun w' => w'.cell? ⟨w.heap.size, 0, none⟩ = some (.int .i64 b) ∧ w'.cell? ⟨w.heap.size, 1, none⟩ = some (.int .i64 n) ∧ w'.cell? ⟨w.heap.size, 2, none⟩ = some (.string (bs t))) (go_keep)
    ((first
      | (go_at_call 88; refine (putAll2 _ _ b n _ (by omega) (by omega) ?_ ?_).mono ?_; (go_simp); (go_simp); rintro e w2 ⟨rfl, hb2⟩; have d20 : w2.cell? ⟨w.heap.size, 0, none⟩ = some (.int .i64 b) := (hb2.cell (by (try simp); omega)).trans (by go_simp); have d21 : w2.cell? ⟨w.heap.size, 1, none⟩ = some (.int .i64 n) := (hb2.cell (by (try simp); omega)).trans (by go_simp); have d22 : w2.cell? ⟨w.heap.size, 2, none⟩ = some (.string (bs t)) := (hb2.cell (by (try simp); omega)).trans (by go_simp); have hz2 := hb2.size; (try simp at hz2))
      | (go_at_call 115; refine (putText_cat _ _ _ (by omega)).mono ?_; rintro e w3 ⟨rfl, hb3⟩; have d30 : w3.cell? ⟨w.heap.size, 0, none⟩ = some (.int .i64 b) := (hb3.cell (by (try simp); omega)).trans (by go_simp); have d31 : w3.cell? ⟨w.heap.size, 1, none⟩ = some (.int .i64 n) := (hb3.cell (by (try simp); omega)).trans (by go_simp); have d32 : w3.cell? ⟨w.heap.size, 2, none⟩ = some (.string (bs t)) := (hb3.cell (by (try simp); omega)).trans (by go_simp); have hz3 := hb3.size; (try simp at hz3))
      | (go_at_call 117; refine (seal_bs _ _ (by omega)).mono ?_; rintro e w4 ⟨rfl, hb4⟩; have d40 : w4.cell? ⟨w.heap.size, 0, none⟩ = some (.int .i64 b) := (hb4.cell (by (try simp); omega)).trans (by go_simp); have d41 : w4.cell? ⟨w.heap.size, 1, none⟩ = some (.int .i64 n) := (hb4.cell (by (try simp); omega)).trans (by go_simp); have d42 : w4.cell? ⟨w.heap.size, 2, none⟩ = some (.string (bs t)) := (hb4.cell (by (try simp); omega)).trans (by go_simp); have hz4 := hb4.size; (try simp at hz4))))
  go_wp2
  go_ret2
  exact ⟨rfl, bel_next (bel_next (bel_next (bel_alloc (bel_next (bel_alloc (Below.refl _ _) _) hb) _).drew hb2) hb3) hb4⟩

set_option maxHeartbeats 1000000 in
theorem lay_bad (x : Ent) (w : World) (h : ¬ x.ok) :
    Calls Tryz.prog 91 #[x.val] w fun r w' => r = .returned (.tuple #[.string (bs []), .int .i64 1]) ∧ Below w.heap.size w w' := by
  obtain ⟨b, n, t⟩ := x
  unfold Ent.val
  have H := hid h
  clear h
  simp only
  go_enter Tryz.func91, Tryz.ntmps91
  go_wp2_with fail
  refine (check_bad _ _ _ _ (by rw [bs_size]; exact H.out)).mono ?_
  rintro e w1 ⟨rfl, hb⟩
  go_wp2_with fail
  go_ret2
  exact ⟨rfl, bel_next (bel_alloc (Below.refl _ _) _) hb⟩

end Go.Proofs.YtgjkjkeeblbjlaaGreatDoor

namespace Go.Proofs.YtgjkjkeeblbjlaaGreatDoor
open Go.RowKit

/-- What the body of a frame is, as an entry. -/
def entOf (body : List UInt8) : Option Ent :=
  match takeAllL 2 body with
  | some ([b, n], text) => if (Ent.mk b n text).ok then some ⟨b, n, text⟩ else none
  | _ => none

/-- The entry with whose frame bytes begin, and what is behind it. -/
def takeEnt (l : List UInt8) : Option (Ent × List UInt8) :=
  match takeTextL l 131072 with
  | none => none
  | some (_, rest) =>
    if rest.length < 4 then none
    else match unsealL (l.take (l.length - rest.length + 4)) with
      | none => none
      | some t => match entOf (match takeTextL t t.length with | none => [] | some (b, _) => b) with
        | none => none
        | some e => some (e, rest.drop 4)

def takeEntV : Option (Ent × List UInt8) → Value
  | none => .tuple #[.agg #[.int .i64 0, .int .i64 0, .string ⟨#[]⟩], .string ⟨#[]⟩, .int .i64 2]
  | some (e, r) => .tuple #[.agg #[.int .i64 e.base, .int .i64 e.n, .string (bs e.text)], .string (bs r), .int .i64 0]

theorem takeTextL_len (l : List UInt8) (m : Int) (t r : List UInt8) (h : takeTextL l m = some (t, r)) : r.length < l.length ∧ t.length + r.length < l.length := by
  unfold takeTextL at h
  split at h
  · cases h
  · rename_i u r0 hu
    have hl := takeL_len _ _ _ _ _ hu
    split at h
    · cases h
    · simp only [Option.some.injEq, Prod.mk.injEq] at h
      obtain ⟨rfl, rfl⟩ := h
      simp
      omega

theorem takeText_none (s : ByteArray) (most : Int) (w : World) (hs : s.size ≤ 140737488355328) (h : takeTextL (tl s) most = none) :
    Calls Tryz.prog 107 #[.string s, .int .i64 most] w fun e w' => e = .returned (.tuple #[.string (bs []), .string (bs []), .int .i64 2]) ∧ Below w.heap.size w w' :=
  (takeText_any s most w hs).mono fun e w' ⟨he, hw⟩ => by rw [h] at he; exact ⟨he, hw⟩

theorem takeText_some (s : ByteArray) (most : Int) (t r : List UInt8) (w : World) (hs : s.size ≤ 140737488355328) (h : takeTextL (tl s) most = some (t, r)) :
    Calls Tryz.prog 107 #[.string s, .int .i64 most] w fun e w' => e = .returned (.tuple #[.string (bs t), .string (bs r), .int .i64 0]) ∧ Below w.heap.size w w' :=
  (takeText_any s most w hs).mono fun e w' ⟨he, hw⟩ => by rw [h] at he; exact ⟨he, hw⟩

theorem unseal_none (s : ByteArray) (w : World) (hs : s.size ≤ 140737488355000) (h : unsealL (tl s) = none) :
    Calls Tryz.prog 130 #[.string s] w fun e w' => e = .returned (.tuple #[.string (bs []), .int .i64 2]) ∧ Below w.heap.size w w' :=
  (unseal_any s w hs).mono fun e w' ⟨he, hw⟩ => by rw [h] at he; exact ⟨he, hw⟩

theorem unseal_some (s : ByteArray) (t : List UInt8) (w : World) (hs : s.size ≤ 140737488355000) (h : unsealL (tl s) = some t) :
    Calls Tryz.prog 130 #[.string s] w fun e w' => e = .returned (.tuple #[.string (bs t), .int .i64 0]) ∧ Below w.heap.size w w' :=
  (unseal_any s w hs).mono fun e w' ⟨he, hw⟩ => by rw [h] at he; exact ⟨he, hw⟩

theorem takeAll2_none (s : ByteArray) (w : World) (hs : s.size ≤ 140737488355328) (h : takeAllL 2 (tl s) = none) :
    Calls Tryz.prog 75 #[.string s, .int .i64 2] w fun e w' => e = .returned (.tuple #[.slice none 0 0, .string ⟨#[]⟩, .int .i64 2]) ∧ Below w.heap.size w w' :=
  (takeAll_any s 2 w hs (by omega)).mono fun e w' hp => by
    unfold TakeAllPost at hp
    rw [h] at hp
    exact ⟨hp.2, hp.1⟩

theorem takeAll2_some (s : ByteArray) (x y : Int) (r : List UInt8) (w : World) (hs : s.size ≤ 140737488355328) (h : takeAllL 2 (tl s) = some ([x, y], r)) :
    Calls Tryz.prog 75 #[.string s, .int .i64 2] w fun e w' => ∃ g cap, e = .returned (.tuple #[.slice (some ⟨g, 0, none⟩) 2 cap, .string (bs r), .int .i64 0]) ∧
      w'.cell? ⟨g, 0, none⟩ = some (.int .i64 x) ∧ w'.cell? ⟨g, 1, none⟩ = some (.int .i64 y) ∧ Below w.heap.size w w' :=
  (takeAll_any s 2 w hs (by omega)).mono fun e w' hp => by
    unfold TakeAllPost at hp
    rw [h] at hp
    obtain ⟨hb, v, he, hown, _⟩ := hp
    rcases hown.2 with ⟨_, h2⟩ | ⟨g, cap, cur, hv, _⟩
    · cases h2
    · subst hv
      have c := hown.cells (g := g) rfl
      have c0 := c 0 (.int .i64 x) rfl
      have c1 := c 1 (.int .i64 y) rfl
      exact ⟨g, cap, he, by simpa [Addr.add] using c0, by simpa [Addr.add] using c1, hb⟩

theorem takeL_range (l : List UInt8) : ∀ (k u v : Nat) (r : List UInt8), u < 18446744073709551616 → takeL l k u = some (v, r) → v < 18446744073709551616 := by
  induction l with
  | nil => intro k u v r _ h; simp [takeL] at h
  | cons c l ih =>
    intro k u v r hu h
    rw [takeL] at h
    split at h
    · cases h
    · split at h
      · exact ih _ _ _ _ (acc_lt _ _ _ hu) h
      · split at h
        · cases h
        · simp at h; obtain ⟨rfl, _⟩ := h; exact acc_lt _ _ _ hu

theorem takeAllL_two (l : List UInt8) (xs : List Int) (r : List UInt8) (h : takeAllL 2 l = some (xs, r)) : ∃ x y, xs = [x, y] ∧ r.length < l.length := by
  rw [takeAllL] at h
  split at h
  · cases h
  · rename_i u r1 h1
    split at h
    · cases h
    · rename_i ys r' h2
      rw [takeAllL] at h2
      split at h2
      · cases h2
      · rename_i u2 r2 h3
        simp [takeAllL] at h2
        obtain ⟨rfl, rfl⟩ := h2
        simp at h
        obtain ⟨rfl, rfl⟩ := h
        have a := takeL_len _ _ _ _ _ h1
        have b := takeL_len _ _ _ _ _ h3
        exact ⟨_, _, rfl, by omega⟩

def TakeEntPost (s : ByteArray) (w : World) (e : Ending) (w' : World) : Prop :=
  e = .returned (takeEntV (takeEnt (tl s))) ∧ Below w.heap.size w w'

set_option maxHeartbeats 1000000 in
theorem takeEnt_1 (s : ByteArray) (w : World) (hs : s.size ≤ 140737488355000) (h : takeTextL (tl s) 131072 = none) :
    Calls Tryz.prog 105 #[.string s] w (TakeEntPost s w) := by
  have HF : Hid (takeEnt (tl s) = none) := by unfold takeEnt; rw [h]; exact hid rfl
  have H := hid h
  clear h
  go_enter Tryz.func105, Tryz.ntmps105
  go_wp2_with fail
  refine (takeText_none _ _ _ (by omega) H.out).mono ?_
  rintro e w1 ⟨rfl, hb⟩
  have hblk : Blk w1 w.heap.size #[.int .i64 0, .int .i64 0, .string ⟨#[]⟩] 103 := (Blk.new _ _ _).below' hb
  obtain ⟨c0, c1, c2, f0, f1, f2⟩ := hblk.c3
  go_wp2_with fail
  refine bodyPost_ret (v := .tuple #[.agg #[.int .i64 0, .int .i64 0, .string ⟨#[]⟩], .string ⟨#[]⟩, .int .i64 2]) (by simp [results, Tryz.results105, go_sem, c0, c1, c2]) rfl ⟨by rw [HF.out]; rfl, ?_⟩
  exact (((bel_next (bel_alloc (Below.refl _ _) _) hb).setCell (Nat.le_refl _) _).setCell (Nat.le_refl _) _).setCell (Nat.le_refl _) _

set_option maxHeartbeats 1000000 in
theorem takeEnt_2 (s : ByteArray) (w : World) (hs : s.size ≤ 140737488355000) (x r : List UInt8) (h : takeTextL (tl s) 131072 = some (x, r)) (hr : r.length < 4) :
    Calls Tryz.prog 105 #[.string s] w (TakeEntPost s w) := by
  have HF : Hid (takeEnt (tl s) = none) := hid (by unfold takeEnt; rw [h]; simp only [if_pos hr])
  have H := hid h
  have hbs : (bs r).size = r.length := rfl
  clear h
  go_enter Tryz.func105, Tryz.ntmps105
  go_wp2_with fail
  refine (takeText_some _ _ _ _ _ (by omega) H.out).mono ?_
  rintro e w1 ⟨rfl, hb⟩
  have hblk : Blk w1 w.heap.size #[.int .i64 0, .int .i64 0, .string ⟨#[]⟩] 103 := (Blk.new _ _ _).below' hb
  obtain ⟨c0, c1, c2, f0, f1, f2⟩ := hblk.c3
  go_wp2_with fail
  refine bodyPost_ret (v := .tuple #[.agg #[.int .i64 0, .int .i64 0, .string ⟨#[]⟩], .string ⟨#[]⟩, .int .i64 2]) (by simp [results, Tryz.results105, go_sem, c0, c1, c2]) rfl ⟨by rw [HF.out]; rfl, ?_⟩
  exact (((bel_next (bel_alloc (Below.refl _ _) _) hb).setCell (Nat.le_refl _) _).setCell (Nat.le_refl _) _).setCell (Nat.le_refl _) _

set_option maxHeartbeats 1000000 in
theorem takeEnt_3 (s : ByteArray) (w : World) (hs : s.size ≤ 140737488354900) (x r : List UInt8) (h : takeTextL (tl s) 131072 = some (x, r)) (hr : ¬ r.length < 4)
    (hu : unsealL ((tl s).take (s.size - r.length + 4)) = none) :
    Calls Tryz.prog 105 #[.string s] w (TakeEntPost s w) := by
  have hl := takeTextL_len _ _ _ _ h
  rw [tl_len] at hl
  have HF : Hid (takeEnt (tl s) = none) := hid (by unfold takeEnt; rw [h]; simp only [if_neg hr, tl_len, hu])
  have H := hid h
  have HU := hid hu
  have hbs : (bs r).size = r.length := rfl
  have hi : ((s.size : Int) - (r.length : Int) + 4) = ((s.size - r.length + 4 : Nat) : Int) := by omega
  have e1 := extract_take s (s.size - r.length + 4)
  clear h hu
  go_enter Tryz.func105, Tryz.ntmps105
  go_wp2_with fail
  refine (takeText_some _ _ _ _ _ (by omega) H.out).mono ?_
  rintro e w1 ⟨rfl, hb⟩
  have hblk : Blk w1 w.heap.size #[.int .i64 0, .int .i64 0, .string ⟨#[]⟩] 103 := (Blk.new _ _ _).below' hb
  go_wp2_with fail
  refine (unseal_none _ _ (by rw [bs_size, List.length_take]; omega) (by rw [tl_bs]; exact HU.out)).mono ?_
  rintro e w2 ⟨rfl, hb2⟩
  obtain ⟨c0, c1, c2, f0, f1, f2⟩ := (hblk.below' hb2).c3
  go_wp2_with fail
  refine bodyPost_ret (v := .tuple #[.agg #[.int .i64 0, .int .i64 0, .string ⟨#[]⟩], .string ⟨#[]⟩, .int .i64 2]) (by simp [results, Tryz.results105, go_sem, c0, c1, c2]) rfl ⟨by rw [HF.out]; rfl, ?_⟩
  exact (((bel_next (bel_next (bel_alloc (Below.refl _ _) _) hb) hb2).setCell (Nat.le_refl _) _).setCell (Nat.le_refl _) _).setCell (Nat.le_refl _) _

theorem takeText_body (s : ByteArray) (most : Int) (w : World) (hs : s.size ≤ 140737488355328) :
    Calls Tryz.prog 107 #[.string s, .int .i64 most] w fun e w' => ∃ r k, e = .returned (.tuple #[.string (bs (match takeTextL (tl s) most with | none => [] | some (b, _) => b)), .string r, .int .i64 k]) ∧ Below w.heap.size w w' := by
  refine (takeText_any s most w hs).mono fun e w' ⟨he, hw⟩ => ?_
  cases h : takeTextL (tl s) most with
  | none => rw [h] at he; exact ⟨_, _, he, hw⟩
  | some x => rw [h] at he; exact ⟨_, _, he, hw⟩

theorem body_len (t : List UInt8) : (match takeTextL t t.length with | none => [] | some (b, _) => b).length ≤ t.length := by
  cases h : takeTextL t t.length with
  | none => simp
  | some x =>
    obtain ⟨b, r⟩ := x
    have := takeTextL_len _ _ _ _ h
    simp only
    omega

set_option maxHeartbeats 1000000 in
theorem takeEnt_4 (s : ByteArray) (w : World) (hs : s.size ≤ 140737488354900) (x r t body : List UInt8) (h : takeTextL (tl s) 131072 = some (x, r)) (hr : ¬ r.length < 4)
    (hu : unsealL ((tl s).take (s.size - r.length + 4)) = some t) (hbd : body = (match takeTextL t t.length with | none => [] | some (b, _) => b)) (ha : takeAllL 2 body = none) :
    Calls Tryz.prog 105 #[.string s] w (TakeEntPost s w) := by
  have hl := takeTextL_len _ _ _ _ h
  rw [tl_len] at hl
  have HF : Hid (takeEnt (tl s) = none) := hid (by unfold takeEnt; rw [h]; simp only [if_neg hr, tl_len, hu, ← hbd, entOf, ha])
  have H := hid h
  have HU := hid hu
  have HB := hid hbd
  have HA := hid ha
  have htl : t.length ≤ s.size := by
    unfold unsealL at hu
    split at hu
    · simp at hu; rw [← hu]; simp [tl_len]; omega
    · cases hu
  have hbl := body_len t
  rw [← hbd] at hbl
  have hbs : (bs r).size = r.length := rfl
  have hbt : (bs t).size = t.length := rfl
  have hi : ((s.size : Int) - (r.length : Int) + 4) = ((s.size - r.length + 4 : Nat) : Int) := by omega
  have e1 := extract_take s (s.size - r.length + 4)
  clear h hu hbd ha
  go_enter Tryz.func105, Tryz.ntmps105
  go_wp2_with fail
  refine (takeText_some _ _ _ _ _ (by omega) H.out).mono ?_
  rintro e w1 ⟨rfl, hb⟩
  have hblk : Blk w1 w.heap.size #[.int .i64 0, .int .i64 0, .string ⟨#[]⟩] 103 := (Blk.new _ _ _).below' hb
  go_wp2_with fail
  refine (unseal_some _ _ _ (by rw [bs_size, List.length_take]; omega) (by rw [tl_bs]; exact HU.out)).mono ?_
  rintro e w2 ⟨rfl, hb2⟩
  have hblk2 := hblk.below' hb2
  go_wp2_with fail
  refine (takeText_body _ _ _ (by rw [hbt]; omega)).mono ?_
  rintro e w3 ⟨r3, k3, rfl, hb3⟩
  rw [tl_bs, ← HB.out]
  have hblk3 := hblk2.below' hb3
  go_wp2_with fail
  refine (takeAll2_none _ _ (by rw [bs_size]; omega) (by rw [tl_bs]; exact HA.out)).mono ?_
  rintro e w4 ⟨rfl, hb4⟩
  obtain ⟨c0, c1, c2, f0, f1, f2⟩ := (hblk3.below' hb4).c3
  go_wp2_with fail
  refine bodyPost_ret (v := .tuple #[.agg #[.int .i64 0, .int .i64 0, .string ⟨#[]⟩], .string ⟨#[]⟩, .int .i64 2]) (by simp [results, Tryz.results105, go_sem, c0, c1, c2]) rfl ⟨by rw [HF.out]; rfl, ?_⟩
  exact (((bel_next (bel_next (bel_next (bel_next (bel_alloc (Below.refl _ _) _) hb) hb2) hb3) hb4).setCell (Nat.le_refl _) _).setCell (Nat.le_refl _) _).setCell (Nat.le_refl _) _

/-- The road to the entry itself. -/
def Ent5 (s : ByteArray) (r t body text : List UInt8) (x y : Int) : Prop :=
  (∃ z, takeTextL (tl s) 131072 = some (z, r)) ∧ ¬ r.length < 4 ∧ unsealL ((tl s).take (s.size - r.length + 4)) = some t ∧
  body = (match takeTextL t t.length with | none => [] | some (b, _) => b) ∧ takeAllL 2 body = some ([x, y], text)

set_option maxHeartbeats 2000000 in
theorem takeEnt_5 (s : ByteArray) (w : World) (hs : s.size ≤ 140737488354900) (r t body text : List UInt8) (x y : Int) (h5 : Ent5 s r t body text x y) (hok : ¬ (Ent.mk x y text).ok) :
    Calls Tryz.prog 105 #[.string s] w (TakeEntPost s w) := by
  obtain ⟨⟨z, h⟩, hr, hu, hbd, ha⟩ := h5
  have hl := takeTextL_len _ _ _ _ h
  rw [tl_len] at hl
  have HF : Hid (takeEnt (tl s) = none) := hid (by unfold takeEnt; rw [h]; simp only [if_neg hr, tl_len, hu, ← hbd, entOf, ha, if_neg hok])
  have H := hid h
  have HU := hid hu
  have HB := hid hbd
  have HA := hid ha
  have HO := hid hok
  have htl : t.length ≤ s.size := by
    unfold unsealL at hu
    split at hu
    · simp at hu; rw [← hu]; simp [tl_len]; omega
    · cases hu
  have hbl := body_len t
  rw [← hbd] at hbl
  have hbs : (bs r).size = r.length := rfl
  have hbt : (bs t).size = t.length := rfl
  have hi : ((s.size : Int) - (r.length : Int) + 4) = ((s.size - r.length + 4 : Nat) : Int) := by omega
  have e1 := extract_take s (s.size - r.length + 4)
  clear h hu hbd ha hok
  go_enter Tryz.func105, Tryz.ntmps105
  go_wp2_with fail
  refine (takeText_some _ _ _ _ _ (by omega) H.out).mono ?_
  rintro e w1 ⟨rfl, hb⟩
  have hblk : Blk w1 w.heap.size #[.int .i64 0, .int .i64 0, .string ⟨#[]⟩] 103 := (Blk.new _ _ _).below' hb
  go_wp2_with fail
  refine (unseal_some _ _ _ (by rw [bs_size, List.length_take]; omega) (by rw [tl_bs]; exact HU.out)).mono ?_
  rintro e w2 ⟨rfl, hb2⟩
  have hblk2 := hblk.below' hb2
  go_wp2_with fail
  refine (takeText_body _ _ _ (by rw [hbt]; omega)).mono ?_
  rintro e w3 ⟨r3, k3, rfl, hb3⟩
  rw [tl_bs, ← HB.out]
  have hblk3 := hblk2.below' hb3
  go_wp2_with fail
  refine (takeAll2_some _ _ _ _ _ (by rw [bs_size]; omega) (by rw [tl_bs]; exact HA.out)).mono ?_
  rintro e w4 ⟨g, cap, rfl, d0, d1, hb4⟩
  have hblk4 := hblk3.below' hb4
  obtain ⟨c0, c1, c2, f0, f1, f2⟩ := hblk4.c3
  have hlt4 := hblk4.lt
  have hg := World.block_lt_of_cell? w4 _ d0
  simp only at hg
  go_wp2_with fail
  go_region_held3 (fun w' => w'.cell? ⟨g, 0, none⟩ = some (.int .i64 x) ∧ w'.cell? ⟨g, 1, none⟩ = some (.int .i64 y)) (go_keep) (fail)
  go_wp2_with fail
  refine (check_bad _ _ _ _ (by rw [bs_size]; exact HO.out)).mono ?_
  rintro e w5 ⟨rfl, hb5⟩
  obtain ⟨g0, g1, g2, k0, k1, k2⟩ := ((hblk4.alloc _).drew.below' hb5).c3
  clear c0 c1 c2 f0 f1 f2 d0 d1
  go_wp2_with fail
  refine bodyPost_ret (v := .tuple #[.agg #[.int .i64 0, .int .i64 0, .string ⟨#[]⟩], .string ⟨#[]⟩, .int .i64 2]) (by simp [results, Tryz.results105, go_sem, g0, g1, g2]) rfl ⟨by rw [HF.out]; rfl, ?_⟩
  exact (((bel_next (bel_alloc (bel_next (bel_next (bel_next (bel_next (bel_alloc (Below.refl _ _) _) hb) hb2) hb3) hb4) _).drew hb5).setCell (Nat.le_refl _) _).setCell (Nat.le_refl _) _).setCell (Nat.le_refl _) _

set_option maxHeartbeats 2000000 in
theorem takeEnt_6 (s : ByteArray) (w : World) (hs : s.size ≤ 140737488354900) (r t body text : List UInt8) (x y : Int) (h5 : Ent5 s r t body text x y) (hok : (Ent.mk x y text).ok) :
    Calls Tryz.prog 105 #[.string s] w (TakeEntPost s w) := by
  obtain ⟨⟨z, h⟩, hr, hu, hbd, ha⟩ := h5
  have hl := takeTextL_len _ _ _ _ h
  rw [tl_len] at hl
  have HF : Hid (takeEnt (tl s) = some (⟨x, y, text⟩, r.drop 4)) := hid (by unfold takeEnt; rw [h]; simp only [if_neg hr, tl_len, hu, ← hbd, entOf, ha, if_pos hok])
  have H := hid h
  have HU := hid hu
  have HB := hid hbd
  have HA := hid ha
  have HO := hid hok
  have htl : t.length ≤ s.size := by
    unfold unsealL at hu
    split at hu
    · simp at hu; rw [← hu]; simp [tl_len]; omega
    · cases hu
  have hbl := body_len t
  rw [← hbd] at hbl
  have hbs : (bs r).size = r.length := rfl
  have hbt : (bs t).size = t.length := rfl
  have hi : ((s.size : Int) - (r.length : Int) + 4) = ((s.size - r.length + 4 : Nat) : Int) := by omega
  have e1 := extract_take s (s.size - r.length + 4)
  have e2 := extract_drop (bs r) 4
  rw [tl_bs, hbs] at e2
  have h4 : (4 : Int) ≤ (r.length : Int) := by omega
  clear h hu hbd ha hok
  go_enter Tryz.func105, Tryz.ntmps105
  go_wp2_with fail
  refine (takeText_some _ _ _ _ _ (by omega) H.out).mono ?_
  rintro e w1 ⟨rfl, hb⟩
  have hblk : Blk w1 w.heap.size #[.int .i64 0, .int .i64 0, .string ⟨#[]⟩] 103 := (Blk.new _ _ _).below' hb
  go_wp2_with fail
  refine (unseal_some _ _ _ (by rw [bs_size, List.length_take]; omega) (by rw [tl_bs]; exact HU.out)).mono ?_
  rintro e w2 ⟨rfl, hb2⟩
  have hblk2 := hblk.below' hb2
  go_wp2_with fail
  refine (takeText_body _ _ _ (by rw [hbt]; omega)).mono ?_
  rintro e w3 ⟨r3, k3, rfl, hb3⟩
  rw [tl_bs, ← HB.out]
  have hblk3 := hblk2.below' hb3
  go_wp2_with fail
  refine (takeAll2_some _ _ _ _ _ (by rw [bs_size]; omega) (by rw [tl_bs]; exact HA.out)).mono ?_
  rintro e w4 ⟨g, cap, rfl, d0, d1, hb4⟩
  have hblk4 := hblk3.below' hb4
  obtain ⟨c0, c1, c2, f0, f1, f2⟩ := hblk4.c3
  have hlt4 := hblk4.lt
  have hg := World.block_lt_of_cell? w4 _ d0
  simp only at hg
  go_wp2_with fail
  go_region_held3 (fun w' => w'.cell? ⟨g, 0, none⟩ = some (.int .i64 x) ∧ w'.cell? ⟨g, 1, none⟩ = some (.int .i64 y)) (go_keep) (fail)
  go_wp2_with fail
  obtain ⟨o1, o2, o3, o4, o5⟩ := HO.out
  refine (check_ok x y (bs text) _ o1 o2 o3 o4 (by rw [bs_size]; exact o5)).mono ?_
  rintro e w5 ⟨rfl, hb5⟩
  have hblk5 : Blk w5 w4.heap.size #[.int .i64 x, .int .i64 y, .string (bs text)] 103 := (Blk.drew (Blk.new _ _ _)).below' hb5
  obtain ⟨g0, g1, g2, k0, k1, k2⟩ := ((hblk4.alloc _).drew.below' hb5).c3
  obtain ⟨m0, m1, m2, n0, n1, n2⟩ := hblk5.c3
  have hlt5 := hblk5.lt
  have hne : w.heap.size ≠ w4.heap.size := by omega
  have hne2 : w4.heap.size ≠ w.heap.size := by omega
  clear c0 c1 c2 f0 f1 f2 d0 d1
  go_wp2_with fail
  go_region_held3 (fun w' => w'.cell? ⟨w4.heap.size, 0, none⟩ = some (.int .i64 x) ∧ w'.cell? ⟨w4.heap.size, 1, none⟩ = some (.int .i64 y) ∧ w'.cell? ⟨w4.heap.size, 2, none⟩ = some (.string (bs text))) (go_keep) (fail)
  go_wp2_with fail
  refine bodyPost_ret (v := .tuple #[.agg #[.int .i64 x, .int .i64 y, .string (bs text)], .string (bs (r.drop 4)), .int .i64 0]) (by simp [results, Tryz.results105, go_sem, g0, g1, g2]) rfl ⟨by rw [HF.out]; rfl, ?_⟩
  exact ((((bel_next (bel_alloc (bel_next (bel_next (bel_next (bel_next (bel_alloc (Below.refl _ _) _) hb) hb2) hb3) hb4) _).drew hb5).setCell (Nat.le_refl _) _).setCell (Nat.le_refl _) _).setCell (Nat.le_refl _) _).drew

/-- **frame.Take**: the entry with whose frame bytes begin, or none. -/
theorem takeEnt_any (s : ByteArray) (w : World) (hs : s.size ≤ 140737488354900) :
    Calls Tryz.prog 105 #[.string s] w fun e w' => e = .returned (takeEntV (takeEnt (tl s))) ∧ Below w.heap.size w w' := by
  change Calls _ _ _ _ (TakeEntPost s w)
  cases h1 : takeTextL (tl s) 131072 with
  | none => exact takeEnt_1 s w (by omega) h1
  | some zr =>
    obtain ⟨z, r⟩ := zr
    by_cases hr : r.length < 4
    · exact takeEnt_2 s w (by omega) z r h1 hr
    · cases hu : unsealL ((tl s).take (s.size - r.length + 4)) with
      | none => exact takeEnt_3 s w hs z r h1 hr hu
      | some t =>
        obtain ⟨body, hbd⟩ : ∃ body, body = (match takeTextL t t.length with | none => [] | some (b, _) => b) := ⟨_, rfl⟩
        cases ha : takeAllL 2 body with
        | none => exact takeEnt_4 s w hs z r t body h1 hr hu hbd ha
        | some xt =>
          obtain ⟨xs, text⟩ := xt
          obtain ⟨x, y, rfl, _⟩ := takeAllL_two _ _ _ ha
          by_cases hok : (Ent.mk x y text).ok
          · exact takeEnt_6 s w hs r t body text x y ⟨⟨z, h1⟩, hr, hu, hbd, ha⟩ hok
          · exact takeEnt_5 s w hs r t body text x y ⟨⟨z, h1⟩, hr, hu, hbd, ha⟩ hok

end Go.Proofs.YtgjkjkeeblbjlaaGreatDoor

namespace Go.Proofs.YtgjkjkeeblbjlaaGreatDoor
open Go.RowKit

variable {F : Fence} {n : Nat} {P : Program}

/-- The blocks in S lie in B as they lay in A, and no block has gone. -/
structure Kept (S : Nat → Prop) (A B : World) : Prop where
  size : A.heap.size ≤ B.heap.size
  block : ∀ k, S k → k < A.heap.size → B.heap[k]? = A.heap[k]?

theorem Kept.refl (S : Nat → Prop) (A : World) : Kept S A A := ⟨Nat.le_refl _, fun _ _ _ => rfl⟩
theorem Kept.trans {S : Nat → Prop} {A B C : World} (h : Kept S A B) (k : Kept S B C) : Kept S A C :=
  ⟨Nat.le_trans h.size k.size, fun i hi hl => (k.block i hi (Nat.lt_of_lt_of_le hl h.size)).trans (h.block i hi hl)⟩
theorem Kept.of_fr {S T : Nat → Prop} {A B : World} (h : Fr T A B) (hd : ∀ k, S k → ¬ T k) : Kept S A B :=
  ⟨h.size, fun k hk hl => h.block k hl (hd k hk)⟩
theorem Kept.mono {S S' : Nat → Prop} {A B : World} (h : Kept S A B) (hs : ∀ k, S' k → S k) : Kept S' A B :=
  ⟨h.size, fun k hk hl => h.block k (hs k hk) hl⟩

/-- **What a range over an iterator may count on:** it hands out xs in order, and writes no block that lay before but those in S. -/
def It {α : Type} (F : Fence) (n : Nat) (P : Program) (g : Nat) (lb : Array Value) (S : Nat → Prop) (encs : α → Array Value) (xs : List α) (w : World) : Prop :=
  ∀ (l : Nat) (J Jx : List α → World → Prop) (W : World), Below w.heap.size w W →
    (∀ s A B, J s A → Fr S A B → J s B) → (∀ s A B, Jx s A → Fr S A B → Jx s B) →
    (∀ pre x W1, J pre W1 → (pre ++ [x]) <+: xs → YieldAt F (n - 1) P l (encs x) W1 fun e W' =>
      (e = .returned (.bool true) ∧ J (pre ++ [x]) W' ∧ Kept S W1 W') ∨ (e = .returned (.bool false) ∧ Jx (pre ++ [x]) W' ∧ Kept S W1 W')) →
    J [] W →
    CallsIn F n P g (#[.func (.yield l) #[] #[]] ++ lb) W fun e W' => (∃ v, e = .returned v) ∧ (J xs W' ∨ ∃ pre, pre <+: xs ∧ Jx pre W')

/-- How a round may be left. -/
def RPost {α : Type} (S : Nat → Prop) (I : List α → World → Prop) (Ix : Code → List α → World → Prop) (xs : List α) (W : World) : Exit → Act → World → Prop
  | .normal, _, W' => Kept S W W' ∧ I xs W'
  | .ret, _, W' => Kept S W W' ∧ Ix .ret xs W'
  | .exit id, _, W' => Kept S W W' ∧ Ix (.exit id) xs W'
  | .goto t, _, W' => Kept S W W' ∧ Ix (.goto t) xs W'
  | .panic _, _, _ => False
  | .outgrown, _, _ => False

theorem fr_putObj {S : Nat → Prop} (W : World) (l : Nat) (o : Obj) (hl : S l) : Fr S W (W.putObj l o) :=
  ⟨rfl, rfl, rfl, by simp [World.putObj], fun k _ hn => World.putObj_heap_other (by rintro rfl; exact hn hl)⟩

/-- **The law.** The loop's record lies at w.heap.size + 1, the block for deferred calls at w.heap.size. -/
theorem wpIn_range {α : Type} {g : Operand} {ps : Array Tmp} {assign body : Code} {Q : Exit → Act → World → Prop} {a : Act} {w : World}
    (hro : F.round = none) (h1 : 1 ≤ n) {gf : Nat} {lb : Array Value} (hg : a.eval g = .func (.func gf) #[] lb) (hFg : F.fn gf) (eg : ∀ args w, (callFunc gf args).run P w = .ok (.enter gf args) w)
    {encs : α → Array Value} {S : Nat → Prop} {xs : List α} (hit : It F (n - 1) P gf lb S encs xs w) (hS : ∀ k, S k → k < w.heap.size) (hps : ∀ x, (encs x).size = ps.size)
    (I : List α → World → Prop) (Ix : Code → List α → World → Prop)
    (hI : ∀ s A B, I s A → Fr (fun k => S k ∨ k = w.heap.size ∨ k = w.heap.size + 1) A B → I s B)
    (hIx : ∀ c s A B, Ix c s A → Fr (fun k => S k ∨ k = w.heap.size ∨ k = w.heap.size + 1) A B → Ix c s B)
    (h0 : ∀ W, Below w.heap.size w W → w.heap.size + 2 ≤ W.heap.size → I [] W)
    (hround : ∀ pre x W, (pre ++ [x]) <+: xs → I pre W → w.heap.size + 2 ≤ W.heap.size →
      assign.wpIn (F.inRound (w.heap.size + 1)) (n - 1 - 1) P (Exit.then (fun a1 W1 => Kept (fun k => S k ∨ k = w.heap.size ∨ k = w.heap.size + 1) W W1 ∧
        ∀ W2, Fr (fun k => k = w.heap.size + 1) W1 W2 → body.wpIn (F.inRound (w.heap.size + 1)) (n - 1 - 1) P (RPost (fun k => S k ∨ k = w.heap.size ∨ k = w.heap.size + 1) I Ix (pre ++ [x]) W2) a1 W2) (fun _ _ _ => False))
        { tmps := (ps.zip (encs x)).foldl (fun t (p, v) => t.setIfInBounds p v) a.tmps, defers := [] } W)
    (hdone : ∀ W, I xs W → W.heap[w.heap.size]? = some (.deferred (some [])) → Q .normal { a with defers := { target := .collected w.heap.size, args := #[] } :: a.defers } W)
    (hstop : ∀ c pre W, pre <+: xs → Ix c pre W → W.heap[w.heap.size]? = some (.deferred (some [])) → c.wpIn F n P Q { a with defers := { target := .collected w.heap.size, args := #[] } :: a.defers } W) :
    (Code.rangeFunc g ps assign body).wpIn F n P Q a w := by
  refine wpIn_rangeFunc ?_
  intro fn hfn
  rw [hro]
  obtain ⟨rec, hrec⟩ : ∃ rec : LoopState → Option Code → Loop, rec = fun st pe => { state := st, pending := pe, fn, tmps := a.tmps, params := ps, assign, body, defers := w.heap.size } := ⟨_, rfl⟩
  obtain ⟨W1, hW1⟩ : ∃ W1, (w.alloc (.deferred (some []))).alloc (.loop (rec .ready none)) = W1 := ⟨_, rfl⟩
  have hL1 : W1.heap[w.heap.size + 1]? = some (.loop (rec .ready none)) := by
    rw [← hW1]; have := World.alloc_heap_new (w.alloc (.deferred (some []))) (.loop (rec .ready none)); rwa [World.size_alloc] at this
  have hK1 : W1.heap[w.heap.size]? = some (.deferred (some [])) := by
    rw [← hW1]; exact (Below.heap_alloc _ _ _ (by simp)).trans (World.alloc_heap_new w _)
  have hb1 : Below w.heap.size w W1 := by
    rw [← hW1]; exact ((Below.refl _ w).alloc (Nat.le_refl _) _).alloc (by simp) _
  have hsz1 : w.heap.size + 2 ≤ W1.heap.size := by rw [← hW1]; simp
  have hnS0 : ¬ S w.heap.size := fun h => by have := hS _ h; omega
  have hnS1 : ¬ S (w.heap.size + 1) := fun h => by have := hS _ h; omega
  refine ⟨w.heap.size + 1, [{ target := .collected w.heap.size, args := #[] }], W1, { target := .fn (.func gf) lb, args := #[.func (.yield (w.heap.size + 1)) #[] #[]] }, W1, gf,
    #[.func (.yield (w.heap.size + 1)) #[] #[]] ++ lb, W1, ?_, ?_, ?_, ?_, fun _ => h1, ?_⟩
  · rw [← hW1, hrec]; exact run_enterLoop_outer _ _ _ _ _
  · simp only [resolve, hg]
    simp [go_sem]
  · intro f' hf'; simp [Target.leads] at hf'; subst hf'; exact hFg
  · simp [invoke, go_sem, eg]
  · have keep : ∀ {A B : World} {k : Nat} {o : Obj}, Fr S A B → ¬ S k → A.heap[k]? = some o → B.heap[k]? = some o := fun hf hk h =>
      (hf.block _ (Array.getElem?_eq_some_iff.1 h).1 hk).trans h
    refine (hit (w.heap.size + 1)
      (fun pre W => I pre W ∧ W.heap[w.heap.size + 1]? = some (.loop (rec .ready none)) ∧ W.heap[w.heap.size]? = some (.deferred (some [])))
      (fun pre W => ∃ c, Ix c pre W ∧ W.heap[w.heap.size + 1]? = some (.loop (rec .done (some c))) ∧ W.heap[w.heap.size]? = some (.deferred (some [])))
      W1 hb1
      (fun s A B hs hf => ⟨hI s A B hs.1 (hf.mono fun k _ hk => .inl hk), keep hf hnS1 hs.2.1, keep hf hnS0 hs.2.2⟩)
      (fun s A B hs hf => by
        obtain ⟨c, hc, hl, hk⟩ := hs
        exact ⟨c, hIx c s A B hc (hf.mono fun k _ hk => .inl hk), keep hf hnS1 hl, keep hf hnS0 hk⟩)
      ?_ ⟨h0 W1 hb1 hsz1, hL1, hK1⟩).mono ?_
    · rintro pre x W ⟨hi, hl, hk⟩ hpre
      have hlt : w.heap.size + 1 < W.heap.size := (Array.getElem?_eq_some_iff.1 hl).1
      have hy := run_yield (P := P) (args := encs x) hl (by rw [hrec]; exact hps x)
      rw [hrec] at hy
      refine ⟨fn, _, assign, body, hy, roundIn_of_wpIn hfn ?_⟩
      refine wpIn_mono (hround pre x W hpre hi (by omega)) ?_
      intro e a1 WA hA
      cases e with
      | normal =>
        obtain ⟨hkeep, hbody⟩ := hA
        have hlA : WA.heap[w.heap.size + 1]? = some (.loop (rec .ready none)) := (hkeep.block _ (.inr (.inr rfl)) hlt).trans hl
        have hkA : WA.heap[w.heap.size]? = some (.deferred (some [])) := (hkeep.block _ (.inr (.inl rfl)) (by omega)).trans hk
        have hltA : w.heap.size + 1 < WA.heap.size := (Array.getElem?_eq_some_iff.1 hlA).1
        refine ⟨_, run_beginRound hlA (by rw [hrec]), ?_⟩
        have hl2 : (WA.putObj (w.heap.size + 1) (.loop { rec .ready none with state := .busy })).heap[w.heap.size + 1]? = some (.loop { rec .ready none with state := .busy }) := World.putObj_heap_same hltA
        have hk2 : (WA.putObj (w.heap.size + 1) (.loop { rec .ready none with state := .busy })).heap[w.heap.size]? = some (.deferred (some [])) := (World.putObj_heap_other (by omega)).trans hkA
        refine wpIn_mono (hbody _ (fr_putObj _ _ _ rfl)) ?_
        have fin : ∀ (jump : Option Code) (W3 : World), Kept (fun k => S k ∨ k = w.heap.size ∨ k = w.heap.size + 1) (WA.putObj (w.heap.size + 1) (.loop { rec .ready none with state := .busy })) W3 →
            (Instr.endRound (w.heap.size + 1) jump).run P W3 = .ok (.bool jump.isNone) (W3.putObj (w.heap.size + 1) (.loop (rec (if jump.isNone then .ready else .done) jump))) ∧
            (W3.putObj (w.heap.size + 1) (.loop (rec (if jump.isNone then .ready else .done) jump))).heap[w.heap.size + 1]? = some (.loop (rec (if jump.isNone then .ready else .done) jump)) ∧
            (W3.putObj (w.heap.size + 1) (.loop (rec (if jump.isNone then .ready else .done) jump))).heap[w.heap.size]? = some (.deferred (some [])) ∧
            Kept S W (W3.putObj (w.heap.size + 1) (.loop (rec (if jump.isNone then .ready else .done) jump))) := fun jump W3 hk3 => by
          have hs2 : w.heap.size + 1 < (WA.putObj (w.heap.size + 1) (.loop { rec .ready none with state := .busy })).heap.size := (Array.getElem?_eq_some_iff.1 hl2).1
          have hl3 := (hk3.block _ (.inr (.inr rfl)) hs2).trans hl2
          have := run_endRound (P := P) jump hl3
          rw [hrec] at this ⊢
          refine ⟨this, World.putObj_heap_same (Array.getElem?_eq_some_iff.1 hl3).1, (World.putObj_heap_other (by omega)).trans ((hk3.block _ (.inr (.inl rfl)) (by omega)).trans hk2), ?_⟩
          have k1 : Kept S W WA := hkeep.mono fun k hk => .inl hk
          have k2 : Kept S WA (WA.putObj (w.heap.size + 1) (.loop { rec .ready none with state := .busy })) := Kept.of_fr (fr_putObj (S := fun k => k = w.heap.size + 1) _ _ _ rfl) (fun k hk e => hnS1 (e ▸ hk))
          have k3 := hk3.mono (S' := S) fun k hk => .inl hk
          have k4 : Kept S W3 (W3.putObj (w.heap.size + 1) (.loop (rec (if jump.isNone then .ready else .done) jump))) := Kept.of_fr (fr_putObj (S := fun k => k = w.heap.size + 1) _ _ _ rfl) (fun k hk e => hnS1 (e ▸ hk))
          rw [hrec] at k2 k3 k4
          exact ((k1.trans k2).trans k3).trans k4
        have hput : ∀ (W3 : World) (o : Obj), Fr (fun k => S k ∨ k = w.heap.size ∨ k = w.heap.size + 1) W3 (W3.putObj (w.heap.size + 1) o) := fun W3 o => fr_putObj _ _ _ (.inr (.inr rfl))
        rintro e a3 W3 hp
        cases e with
        | normal =>
          obtain ⟨hk3, hi3⟩ := hp
          obtain ⟨hr, hl4, hk4, hkp⟩ := fin none W3 hk3
          exact ⟨_, _, hr, .inl ⟨rfl, ⟨hI _ _ _ hi3 (hput _ _), hl4, hk4⟩, hkp⟩⟩
        | ret =>
          obtain ⟨hk3, hi3⟩ := hp
          obtain ⟨hr, hl4, hk4, hkp⟩ := fin (some .ret) W3 hk3
          exact ⟨_, _, hr, .inr ⟨rfl, ⟨.ret, hIx _ _ _ _ hi3 (hput _ _), hl4, hk4⟩, hkp⟩⟩
        | exit id =>
          obtain ⟨hk3, hi3⟩ := hp
          obtain ⟨hr, hl4, hk4, hkp⟩ := fin (some (.exit id)) W3 hk3
          exact ⟨_, _, hr, .inr ⟨rfl, ⟨.exit id, hIx _ _ _ _ hi3 (hput _ _), hl4, hk4⟩, hkp⟩⟩
        | goto t =>
          obtain ⟨hk3, hi3⟩ := hp
          obtain ⟨hr, hl4, hk4, hkp⟩ := fin (some (.goto t)) W3 hk3
          exact ⟨_, _, hr, .inr ⟨rfl, ⟨.goto t, hIx _ _ _ _ hi3 (hput _ _), hl4, hk4⟩, hkp⟩⟩
        | panic ch => exact hp.elim
        | outgrown => exact hp.elim
      | ret => exact hA.elim
      | exit id => exact hA.elim
      | goto t => exact hA.elim
      | panic ch => exact hA.elim
      | outgrown => exact hA.elim
    · have hput : ∀ (W3 : World) (o : Obj), Fr (fun k => S k ∨ k = w.heap.size ∨ k = w.heap.size + 1) W3 (W3.putObj (w.heap.size + 1) o) := fun W3 o => fr_putObj _ _ _ (.inr (.inr rfl))
      rintro e W2 ⟨⟨v, rfl⟩, (⟨hi, hl, hk⟩ | ⟨pre, hpre, c, hi, hl, hk⟩)⟩
      · exact ⟨none, _, by have := run_endLoop (P := P) hl (by rw [hrec]; simp); rw [hrec] at this; exact this, hdone _ (hI _ _ _ hi (hput _ _)) ((World.putObj_heap_other (by omega)).trans hk)⟩
      · exact ⟨some c, _, by have := run_endLoop (P := P) hl (by rw [hrec]; simp); rw [hrec] at this; exact this, hstop c pre _ hpre (hIx _ _ _ _ hi (hput _ _)) ((World.putObj_heap_other (by omega)).trans hk)⟩

/-- A plain contract, where the walk stands at a call inside the fence that asks nothing. -/
theorem wide_call {n : Nat} {P : Program} {f : FuncId} {args : Array Value} {w : World} {R : Ending → World → Prop} (h : Calls P f args w R) :
    Fence.wide.fn f ∧ (Fence.wide.depth.isSome = true → 1 ≤ n) ∧ CallsIn Fence.wide (n - 1) P f args w R :=
  ⟨trivial, fun h => (by cases h), callsIn_wide.2 h⟩

theorem wide_call' {n : Nat} {P : Program} {f : FuncId} {args : Array Value} {w : World} {R : Ending → World → Prop} (h : Calls P f args w R) :
    Fence.wide.fn f ∧ CallsIn Fence.wide n P f args w R := ⟨trivial, callsIn_wide.2 h⟩

end Go.Proofs.YtgjkjkeeblbjlaaGreatDoor

namespace Go.Proofs.YtgjkjkeeblbjlaaGreatDoor
open Go.RowKit
attribute [local go_sem] Oper.semAt_some

theorem takeEnt_len (l : List UInt8) (e : Ent) (r : List UInt8) (h : takeEnt l = some (e, r)) : r.length < l.length := by
  unfold takeEnt at h
  split at h
  · cases h
  · rename_i z rest h1
    have := takeTextL_len _ _ _ _ h1
    split at h
    · cases h
    · split at h
      · cases h
      · split at h
        · cases h
        · simp only [Option.some.injEq, Prod.mk.injEq] at h
          obtain ⟨_, rfl⟩ := h
          simp; omega

/-- The entries of the frames that bytes begin with, each with its frame's length. -/
def rowL (l : List UInt8) : List (Nat × Ent) :=
  match _h : takeEnt l with
  | none => []
  | some (e, r) => (l.length - r.length, e) :: rowL r
termination_by l.length
decreasing_by exact takeEnt_len l e r _h

theorem rowL_none {l : List UInt8} (h : takeEnt l = none) : rowL l = [] := by
  rw [rowL]; split
  · rfl
  · rename_i e r h2; rw [h] at h2; cases h2

theorem rowL_some {l : List UInt8} {e : Ent} {r : List UInt8} (h : takeEnt l = some (e, r)) : rowL l = (l.length - r.length, e) :: rowL r := by
  rw [rowL]; split
  · rename_i h2; rw [h] at h2; cases h2
  · rename_i e2 r2 h2; rw [h] at h2; cases h2; rfl

theorem take_ent_none (s : ByteArray) (w : World) (hs : s.size ≤ 140737488354900) (h : takeEnt (tl s) = none) :
    Calls Tryz.prog 105 #[.string s] w fun e w' => e = .returned (.tuple #[.agg #[.int .i64 0, .int .i64 0, .string ⟨#[]⟩], .string ⟨#[]⟩, .int .i64 2]) ∧ Below w.heap.size w w' :=
  (takeEnt_any s w hs).mono fun e w' ⟨he, hw⟩ => by rw [h] at he; exact ⟨he, hw⟩

theorem take_ent_some (s : ByteArray) (x : Ent) (r : List UInt8) (w : World) (hs : s.size ≤ 140737488354900) (h : takeEnt (tl s) = some (x, r)) :
    Calls Tryz.prog 105 #[.string s] w fun e w' => e = .returned (.tuple #[.agg #[.int .i64 x.base, .int .i64 x.n, .string (bs x.text)], .string (bs r), .int .i64 0]) ∧ Below w.heap.size w w' :=
  (takeEnt_any s w hs).mono fun e w' ⟨he, hw⟩ => by rw [h] at he; exact ⟨he, hw⟩

/-- What a round of a range over Each is handed. -/
def eachEnc (x : Nat × Ent) : Array Value := #[.int .i64 x.1, .agg #[.int .i64 x.2.base, .int .i64 x.2.n, .string (bs x.2.text)]]

def boxLen (w : World) (b : Nat) : Nat := match w.cell? ⟨b, 0, none⟩ with | some (.string s) => s.size | _ => 0
theorem boxLen_of {w : World} {b : Nat} {s : ByteArray} {T : TypeId} (h : Blk w b #[.string s] T) : boxLen w b = s.size := by
  unfold boxLen; rw [h.cell (i := 0) rfl]; rfl

set_option maxHeartbeats 1000000 in
theorem each_any (s : ByteArray) (w : World) :
    Calls Tryz.prog 73 #[.string s] w fun e w' => e = .returned (.func (.func 104) #[] #[.pointer (some ⟨w.heap.size, 0, none⟩)]) ∧ w' = w.alloc (.cells #[.string s] 9) := by
  go_enter Tryz.func73, Tryz.ntmps73
  go_wp2_with fail
  go_ret
  exact ⟨rfl, rfl⟩

set_option maxHeartbeats 2000000 in
theorem each_it (n : Nat) (bx : Nat) (l0 : List UInt8) (w : World) (hl : l0.length ≤ 140737488354900) (hbx : Blk w bx #[.string (bs l0)] 9) :
    It Fence.wide n Tryz.prog 104 #[.pointer (some ⟨bx, 0, none⟩)] (fun k => k = bx) eachEnc (rowL l0) w := by
  intro l J Jx W hW hJ hJx hY h0
  have hbW := hbx.below' hW
  refine callsIn_of_wp Tryz.func104 rfl trivial ?_ rfl
  simp only [Tryz.ntmps104, List.size_toArray, List.length_cons, List.length_nil, Nat.reduceAdd, Nat.reduceSub, Array.replicate_succ, Array.replicate_zero, List.push_toArray, List.append_toArray, List.nil_append, List.cons_append]
  gi_wp2
  gi_loopw [3] (fun _ wr => ∃ pre rest, rowL l0 = pre ++ rowL rest ∧ rest.length ≤ l0.length ∧ Blk wr bx #[.string (bs rest)] 9 ∧ J pre wr) (fun _ wr => boxLen wr bx)
  case atStart =>
    exact ⟨[], l0, rfl, Nat.le_refl _, hbW, h0⟩
  case round =>
    obtain ⟨pre, rest, hrow, hlen, hB, hJp⟩ := hrel
    have HROW := hid hrow
    have HJP := hid hJp
    have HBX := hid hB
    have hcell := hB.cell (i := 0) (v := .string (bs rest)) rfl
    have hblt := hB.lt
    clear hrow hJp hB
    cases ht : takeEnt rest with
    | none =>
      have HT := hid ht
      clear ht
      gi_wp2
      refine wide_call ((take_ent_none _ _ (by rw [bs_size]; omega) (by rw [tl_bs]; exact HT.out)).mono ?_)
      rintro e w1 ⟨rfl, hb1⟩
      gi_wp2
      refine ⟨fun _ h => (by cases h), ?_⟩
      gi_wp2
      refine bodyPost_ret (results_none rfl _ _ _) rfl ?_
      refine ⟨⟨_, rfl⟩, .inl ?_⟩
      have e1 := HROW.out
      rw [rowL_none HT.out, List.append_nil] at e1
      rw [e1]
      exact hJ _ _ _ HJP.out (((Fr.refl _ _).below hb1).alloc _)
    | some xr =>
      obtain ⟨x, r⟩ := xr
      have HT := hid ht
      have hrl := takeEnt_len _ _ _ ht
      have hbr : (bs r).size = r.length := rfl
      have hbrest : (bs rest).size = rest.length := rfl
      clear ht
      gi_wp2
      refine wide_call ((take_ent_some _ _ _ _ (by rw [bs_size]; omega) (by rw [tl_bs]; exact HT.out)).mono ?_)
      rintro e w1 ⟨rfl, hb1⟩
      have hcell1 : w1.cell? ⟨bx, 0, none⟩ = some (.string (bs rest)) := (hb1.cell (p := ⟨bx, 0, none⟩) hblt).trans hcell
      have hblt1 : bx < w1.heap.size := Nat.lt_of_lt_of_le hblt hb1.size
      have hpre : (pre ++ [(rest.length - r.length, x)]) <+: rowL l0 := by
        rw [HROW.out, rowL_some HT.out]
        exact ⟨rowL r, by simp⟩
      have hJ2 : J pre (w1.alloc (.cells #[.int .i64 x.base, .int .i64 x.n, .string (bs x.text)] 103)) := hJ _ _ _ HJP.out (((Fr.refl _ _).below hb1).alloc _)
      obtain ⟨fn, tmps, assign, body, hy, hR⟩ := hY pre (rest.length - r.length, x) _ hJ2 hpre
      have HPRE := hid hpre
      clear hpre hJ2
      simp only [eachEnc] at hy
      have hi : ((rest.length : Int) - (r.length : Int)) = ((rest.length - r.length : Nat) : Int) := by omega
      gi_wp2
      refine ⟨fun h => (by cases h), hR.mono ?_⟩
      rintro e W2 (⟨rfl, hJ2, hk⟩ | ⟨rfl, hJx2, hk⟩)
      · have hB2 : Blk W2 bx #[.string (bs rest)] 9 := by
          unfold Blk
          rw [hk.block bx rfl (by simp; omega)]
          exact (HBX.out.below' hb1).alloc _
        have hcell2 := hB2.cell (i := 0) (v := .string (bs rest)) rfl
        have hf2 := hB2.free 0
        have HB2 := hid hB2
        clear hB2 hy hR
        gi_wp2
        go_roundw
        case rel =>
          refine ⟨pre ++ [(rest.length - r.length, x)], r, ?_, by omega, HB2.out.set 0 _, ?_⟩
          · rw [HROW.out, rowL_some HT.out, List.append_assoc]; rfl
          · exact hJ _ _ _ hJ2 (Fr.setCell (S := fun k => k = bx) (p := ⟨bx, 0, none⟩) (Fr.refl _ _) (.inl rfl) _)
        case measure =>
          rw [boxLen_of (HB2.out.set 0 _), boxLen_of HBX.out, bs_size]
          exact hrl
      · clear hy hR
        gi_wp2
        refine bodyPost_ret (results_none rfl _ _ _) rfl ?_
        exact ⟨⟨_, rfl⟩, .inr ⟨_, HPRE.out, hJx2⟩⟩

theorem rowL_len (l : List UInt8) : ∀ n, l.length ≤ n → (rowL l).length ≤ l.length := by
  intro n
  induction n generalizing l with
  | zero =>
    intro h
    cases ht : takeEnt l with
    | none => rw [rowL_none ht]; simp
    | some x => have := takeEnt_len l x.1 x.2 ht; omega
  | succ n ih =>
    intro h
    cases ht : takeEnt l with
    | none => rw [rowL_none ht]; simp
    | some x =>
      have hl := takeEnt_len l x.1 x.2 ht
      have := ih x.2 (by omega)
      rw [rowL_some (e := x.1) (r := x.2) ht]; simp; omega

/-- The cells of entries. -/
def entCells (l : List Ent) : List Value := l.flatMap fun e => [.int .i64 e.base, .int .i64 e.n, .string (bs e.text)]
def rowBytes (l : List (Nat × Ent)) : Nat := (l.map (·.1)).sum

theorem rowBytes_le (l : List UInt8) : ∀ n, l.length ≤ n → rowBytes (rowL l) ≤ l.length := by
  intro n
  induction n generalizing l with
  | zero =>
    intro h
    cases ht : takeEnt l with
    | none => rw [rowL_none ht]; simp [rowBytes]
    | some x => have := takeEnt_len l x.1 x.2 ht; omega
  | succ n ih =>
    intro h
    cases ht : takeEnt l with
    | none => rw [rowL_none ht]; simp [rowBytes]
    | some x =>
      have hl := takeEnt_len l x.1 x.2 ht
      have := ih x.2 (by omega)
      rw [rowL_some (e := x.1) (r := x.2) ht]; simp [rowBytes] at this ⊢; omega

theorem rowBytes_prefix {a b : List (Nat × Ent)} (h : a <+: b) : rowBytes a ≤ rowBytes b ∧ a.length ≤ b.length := by
  obtain ⟨c, rfl⟩ := h
  simp [rowBytes]

theorem Tryz.infoEntry : (Tryz.prog.info? 103).map (fun i => (i.zero, i.size, i.bytes)) = some (some (.agg #[.int .i64 0, .int .i64 0, .string ⟨#[]⟩]), 3, 32) := by kernel_rfl
end Go.Proofs.YtgjkjkeeblbjlaaGreatDoor

namespace Go.Proofs.YtgjkjkeeblbjlaaGreatDoor
open Go.RowKit

theorem acc_add {u k c : Nat} (hu : u < 2 ^ (7 * k)) (h : (c % 128) * 2 ^ (7 * k) < 18446744073709551616) : acc u k c = u + (c % 128) * 2 ^ (7 * k) := by
  unfold acc
  rw [Nat.mod_eq_of_lt h, Nat.mul_comm, Nat.or_comm, ← Nat.two_pow_add_eq_or_of_lt hu]
  omega

theorem u8_small {n : Nat} (h : n < 256) : (UInt8.ofNat n).toNat = n := by simp; omega

theorem takeL_leb (d : Nat) : ∀ (v u k : Nat) (r : List UInt8), v ≤ d → k ≤ 9 → u < 2 ^ (7 * k) → u + v * 2 ^ (7 * k) < 18446744073709551616 → (1 ≤ k → 0 < v) →
    takeL (leb v ++ r) k u = some (u + v * 2 ^ (7 * k), r) := by
  induction d using Nat.strongRecOn with
  | _ d ih =>
    intro v u k r hv hk hu hs hp
    by_cases h : v < 128
    · rw [leb_small h]
      simp only [List.cons_append, List.nil_append]
      have hc : (UInt8.ofNat v).toNat = v := u8_small (by omega)
      rw [takeL, hc, if_neg (by omega), if_neg (by omega), if_neg, acc_add hu (by rw [Nat.mod_eq_of_lt h]; omega), Nat.mod_eq_of_lt h]
      rintro (⟨h1, h2⟩ | ⟨h1, h2⟩)
      · have := hp h1; omega
      · subst h1; omega
    · rw [leb_big h]
      simp only [List.cons_append]
      have hc : (UInt8.ofNat (v % 128 + 128)).toNat = v % 128 + 128 := u8_small (by omega)
      have hm : (v % 128 + 128) % 128 = v % 128 := by omega
      have hpw : 2 ^ (7 * (k + 1)) = 128 * 2 ^ (7 * k) := by rw [show 7 * (k + 1) = 7 * k + 7 from by omega, Nat.pow_add]; omega
      have hdm : v % 128 * 2 ^ (7 * k) + v / 128 * 2 ^ (7 * (k + 1)) = v * 2 ^ (7 * k) := by
        rw [hpw, ← Nat.mul_assoc, ← Nat.add_mul]; congr 1; omega
      have hpos : 0 < 2 ^ (7 * k) := Nat.pow_pos (by omega)
      have hk2 : k + 1 ≤ 9 := by
        have h1 : 128 * 2 ^ (7 * k) ≤ v * 2 ^ (7 * k) := Nat.mul_le_mul_right _ (by omega)
        rw [← hpw] at h1
        have h2 : 2 ^ (7 * (k + 1)) < 2 ^ 64 := by omega
        have h3 := (Nat.pow_lt_pow_iff_right (by omega : 1 < 2)).1 h2
        omega
      rw [takeL, hc, if_neg (by omega), if_pos (by omega), acc_add hu (by rw [hm]; omega), hm]
      have hlt : v % 128 * 2 ^ (7 * k) ≤ 127 * 2 ^ (7 * k) := Nat.mul_le_mul_right _ (by omega)
      rw [ih (v / 128) (by omega) (v / 128) _ (k + 1) r (Nat.le_refl _) hk2 (by rw [hpw]; omega) (by rw [Nat.add_assoc, hdm]; exact hs) (by intro _; omega), Nat.add_assoc, hdm]

theorem takeL_torn (d : Nat) : ∀ (v u k j : Nat), v ≤ d → j < (leb v).length → takeL ((leb v).take j) k u = none := by
  induction d using Nat.strongRecOn with
  | _ d ih =>
    intro v u k j hv hj
    by_cases h : v < 128
    · rw [leb_small h] at hj ⊢
      have : j = 0 := by simpa using hj
      subst this
      rfl
    · rw [leb_big h] at hj ⊢
      cases j with
      | zero => rfl
      | succ j =>
        have hc : (UInt8.ofNat (v % 128 + 128)).toNat = v % 128 + 128 := u8_small (by omega)
        rw [List.take_succ_cons, takeL, hc]
        by_cases hk : k = 10
        · rw [if_pos hk]
        · rw [if_neg hk, if_pos (by omega)]
          exact ih (v / 128) (by omega) (v / 128) _ _ j (Nat.le_refl _) (by simpa using hj)

theorem unzig_zig {n : Int} : unzig (zig n) = n := by
  unfold unzig zig
  split <;> split <;> omega

theorem takeL_put {n : Int} (h0 : -9223372036854775808 ≤ n) (h1 : n ≤ 9223372036854775807) (r : List UInt8) : takeL (putL n ++ r) 0 0 = some (zig n, r) := by
  have h := takeL_leb (zig n) (zig n) 0 0 r (Nat.le_refl _) (by omega) (by simp) (by simpa using zig_lt h0 h1) (by omega)
  simpa [putL] using h

theorem takeTextL_put {s r : List UInt8} {m : Int} (hs : s.length ≤ 9223372036854775807) (hm : (s.length : Int) ≤ m) : takeTextL (putTextL s ++ r) m = some (s, r) := by
  unfold takeTextL putTextL
  rw [List.append_assoc, takeL_put (by omega) (by omega)]
  simp only [unzig_zig]
  rw [if_neg (by simp; omega)]
  simp

theorem takeAllL_two_put {a b : Int} (ha : -9223372036854775808 ≤ a ∧ a ≤ 9223372036854775807) (hb : -9223372036854775808 ≤ b ∧ b ≤ 9223372036854775807) (t : List UInt8) : takeAllL 2 (putAllL [a, b] ++ t) = some ([a, b], t) := by
  have e : putAllL [a, b] ++ t = putL a ++ (putL b ++ t) := by unfold putAllL; simp
  rw [e, takeAllL, takeL_put ha.1 ha.2]
  simp only
  rw [takeAllL, takeL_put hb.1 hb.2]
  simp only [takeAllL, unzig_zig]

theorem sealL_len (l : List UInt8) : (sealL l).length = l.length + 4 := by unfold sealL; simp [sum4_len]

theorem unsealL_seal (l : List UInt8) : unsealL (sealL l) = some l := by
  unfold unsealL
  have h : (sealL l).take ((sealL l).length - 4) = l := by
    rw [sealL_len, Nat.add_sub_cancel]; unfold sealL; simp
  rw [if_pos ⟨by rw [sealL_len]; omega, by rw [h]⟩, h]

/-- What a frame's text is. -/
def Ent.body (e : Ent) : List UInt8 := putAllL [e.base, e.n] ++ e.text

theorem Ent.body_len {e : Ent} (h : e.ok) : e.body.length ≤ 65556 := by
  obtain ⟨h1, h2, h3, h4, h5⟩ := h
  have hp : (putAllL [e.base, e.n]).length ≤ 20 := putAllL_len _ (by
    intro x hx
    simp at hx
    rcases hx with rfl | rfl <;> omega)
  unfold Ent.body; simp; omega

theorem entOf_body {e : Ent} (h : e.ok) : entOf e.body = some e := by
  have h2 := h
  obtain ⟨h1, h2, h3, h4, h5⟩ := h
  unfold entOf Ent.body
  rw [takeAllL_two_put (by omega) (by omega)]
  simp only
  rw [if_pos (by assumption)]

/-- A frame is taken again. -/
theorem takeEnt_lay {e : Ent} (h : e.ok) (r : List UInt8) : takeEnt (e.lay ++ r) = some (e, r) := by
  have hb := e.body_len h
  have hlay : e.lay ++ r = putTextL e.body ++ (sum4 (crcMore 0 (putTextL e.body)) ++ r) := by
    show sealL (putTextL e.body) ++ r = _
    unfold sealL; rw [List.append_assoc]
  unfold takeEnt
  have h1 : takeTextL (e.lay ++ r) 131072 = some (e.body, sum4 (crcMore 0 (putTextL e.body)) ++ r) := by
    rw [hlay]; exact takeTextL_put (by omega) (by omega)
  rw [h1]
  simp only
  rw [if_neg (by simp [sum4_len])]
  have h2 : (e.lay ++ r).take ((e.lay ++ r).length - (sum4 (crcMore 0 (putTextL e.body)) ++ r).length + 4) = sealL (putTextL e.body) := by
    have hl : e.lay.length = (putTextL e.body).length + 4 := sealL_len _
    have : (e.lay ++ r).length - (sum4 (crcMore 0 (putTextL e.body)) ++ r).length + 4 = e.lay.length := by
      rw [List.length_append, List.length_append, sum4_len, hl]; omega
    rw [this, List.take_left]; rfl
  rw [h2, unsealL_seal]
  simp only
  have h3 : takeTextL (putTextL e.body) (putTextL e.body).length = some (e.body, []) := by
    have := takeTextL_put (s := e.body) (r := []) (m := (putTextL e.body).length) (by omega) (by unfold putTextL; simp; omega)
    rwa [List.append_nil] at this
  rw [h3]
  simp only
  rw [entOf_body h]
  simp only [Option.some.injEq, Prod.mk.injEq, true_and]
  rw [show (4 : Nat) = (sum4 (crcMore 0 (putTextL e.body))).length from rfl, List.drop_left]

/-- A frame that is cut off is none. -/
theorem takeEnt_torn {e : Ent} (h : e.ok) {j : Nat} (hj : j < e.lay.length) : takeEnt (e.lay.take j) = none := by
  have hb := e.body_len h
  have hlay : e.lay = putL e.body.length ++ (e.body ++ sum4 (crcMore 0 (putTextL e.body))) := by
    show sealL (putTextL e.body) = _
    unfold sealL putTextL; rw [List.append_assoc]
  unfold takeEnt
  by_cases h1 : j < (putL e.body.length).length
  · have : takeTextL (e.lay.take j) 131072 = none := by
      unfold takeTextL
      rw [hlay, List.take_append_of_le_length (by omega)]
      have := takeL_torn (zig e.body.length) (zig e.body.length) 0 0 j (Nat.le_refl _) h1
      unfold putL
      rw [this]
    rw [this]
  · obtain ⟨q, rfl⟩ : ∃ q, j = (putL e.body.length).length + q := ⟨j - (putL e.body.length).length, by omega⟩
    have hq : q < e.body.length + 4 := by
      rw [hlay] at hj
      simp only [List.length_append, sum4_len] at hj
      omega
    have ht : e.lay.take ((putL e.body.length).length + q) = putL e.body.length ++ (e.body ++ sum4 (crcMore 0 (putTextL e.body))).take q := by
      rw [hlay, List.take_length_add_append]
    have hlen : ((e.body ++ sum4 (crcMore 0 (putTextL e.body))).take q).length = q := by
      rw [List.length_take, List.length_append, sum4_len]; omega
    have h2 : takeTextL (e.lay.take ((putL e.body.length).length + q)) 131072 = if (q : Int) < e.body.length then none else some (e.body, (sum4 (crcMore 0 (putTextL e.body))).take (q - e.body.length)) := by
      unfold takeTextL
      rw [ht, takeL_put (by omega) (by omega)]
      simp only [unzig_zig, hlen]
      by_cases hqb : (q : Int) < e.body.length
      · rw [if_pos (by omega), if_pos hqb]
      · rw [if_neg (by omega), if_neg hqb]
        congr 1
        rw [Int.toNat_natCast, List.take_take, Nat.min_eq_left (by omega), List.take_append_of_le_length (Nat.le_refl _), List.take_length]
        congr 1
        rw [List.take_append, List.drop_append, List.take_of_length_le (by omega)]
        simp
    rw [h2]
    by_cases hqb : (q : Int) < e.body.length
    · rw [if_pos hqb]
    · rw [if_neg hqb]
      simp only
      rw [if_pos (by rw [List.length_take, sum4_len]; omega)]

end Go.Proofs.YtgjkjkeeblbjlaaGreatDoor
