/-
  frame.Take (chapter 3): the entry with whose frame bytes begin: the plain function, and the walk. Conditions: texts that fit.
-/
import Derived.Test.YtnibpknhpjcamaaGreatDoorFrame
import Derived.Laws.ResultCell
set_option maxRecDepth 100000
namespace Go.Proofs.YtnibpknhpjcamaaGreatDoor
open Go.RowKit

/-- What the body of a frame is, as an entry. -/
def entOf (body : List UInt8) : Option Ent :=
  match takeAllL 2 body with
  | some ([b, n], text) => if (Ent.mk b n text).ok then some ⟨b, n, text⟩ else none
  | _ => none

/-- The entry with whose frame bytes begin, and what is behind it. -/
def takeEnt (l : List UInt8) : Option (Ent × List UInt8) :=
  match takeTextL l 131072 with
  | none => none
  | some (_, rest) =>
    if rest.length < 4 then none
    else match unsealL (l.take (l.length - rest.length + 4)) with
      | none => none
      | some t => match entOf (match takeTextL t t.length with | none => [] | some (b, _) => b) with
        | none => none
        | some e => some (e, rest.drop 4)

def takeEntV : Option (Ent × List UInt8) → Value
  | none => .tuple #[.agg #[.int .i64 0, .int .i64 0, .string ⟨#[]⟩], .string ⟨#[]⟩, .int .i64 2]
  | some (e, r) => .tuple #[.agg #[.int .i64 e.base, .int .i64 e.n, .string (bs e.text)], .string (bs r), .int .i64 0]

theorem takeTextL_len (l : List UInt8) (m : Int) (t r : List UInt8) (h : takeTextL l m = some (t, r)) : r.length < l.length ∧ t.length + r.length < l.length := by
  unfold takeTextL at h
  split at h
  · cases h
  · rename_i u r0 hu
    have hl := takeL_len _ _ _ _ _ hu
    split at h
    · cases h
    · simp only [Option.some.injEq, Prod.mk.injEq] at h
      obtain ⟨rfl, rfl⟩ := h
      simp
      omega

theorem takeText_none (s : ByteArray) (most : Int) (w : World) (hs : s.size ≤ 140737488355328) (h : takeTextL (tl s) most = none) :
    Calls Tryz.prog 53 #[.string s, .int .i64 most] w fun e w' => e = .returned (.tuple #[.string (bs []), .string (bs []), .int .i64 2]) ∧ Below w.heap.size w w' :=
  (takeText_any s most w hs).mono fun e w' ⟨he, hw⟩ => by rw [h] at he; exact ⟨he, hw⟩

theorem takeText_some (s : ByteArray) (most : Int) (t r : List UInt8) (w : World) (hs : s.size ≤ 140737488355328) (h : takeTextL (tl s) most = some (t, r)) :
    Calls Tryz.prog 53 #[.string s, .int .i64 most] w fun e w' => e = .returned (.tuple #[.string (bs t), .string (bs r), .int .i64 0]) ∧ Below w.heap.size w w' :=
  (takeText_any s most w hs).mono fun e w' ⟨he, hw⟩ => by rw [h] at he; exact ⟨he, hw⟩

theorem unseal_none (s : ByteArray) (w : World) (hs : s.size ≤ 140737488355000) (h : unsealL (tl s) = none) :
    Calls Tryz.prog 54 #[.string s] w fun e w' => e = .returned (.tuple #[.string (bs []), .int .i64 2]) ∧ Below w.heap.size w w' :=
  (unseal_any s w hs).mono fun e w' ⟨he, hw⟩ => by rw [h] at he; exact ⟨he, hw⟩

theorem unseal_some (s : ByteArray) (t : List UInt8) (w : World) (hs : s.size ≤ 140737488355000) (h : unsealL (tl s) = some t) :
    Calls Tryz.prog 54 #[.string s] w fun e w' => e = .returned (.tuple #[.string (bs t), .int .i64 0]) ∧ Below w.heap.size w w' :=
  (unseal_any s w hs).mono fun e w' ⟨he, hw⟩ => by rw [h] at he; exact ⟨he, hw⟩

theorem takeAll2_none (s : ByteArray) (w : World) (hs : s.size ≤ 140737488355328) (h : takeAllL 2 (tl s) = none) :
    Calls Tryz.prog 55 #[.string s, .int .i64 2] w fun e w' => e = .returned (.tuple #[.slice none 0 0, .string ⟨#[]⟩, .int .i64 2]) ∧ Below w.heap.size w w' :=
  (takeAll_any s 2 w hs (by omega)).mono fun e w' hp => by
    unfold TakeAllPost at hp
    rw [h] at hp
    exact ⟨hp.2, hp.1⟩

theorem takeAll2_some (s : ByteArray) (x y : Int) (r : List UInt8) (w : World) (hs : s.size ≤ 140737488355328) (h : takeAllL 2 (tl s) = some ([x, y], r)) :
    Calls Tryz.prog 55 #[.string s, .int .i64 2] w fun e w' => ∃ g cap, e = .returned (.tuple #[.slice (some ⟨g, 0, none⟩) 2 cap, .string (bs r), .int .i64 0]) ∧
      w'.cell? ⟨g, 0, none⟩ = some (.int .i64 x) ∧ w'.cell? ⟨g, 1, none⟩ = some (.int .i64 y) ∧ Below w.heap.size w w' :=
  (takeAll_any s 2 w hs (by omega)).mono fun e w' hp => by
    unfold TakeAllPost at hp
    rw [h] at hp
    obtain ⟨hb, v, he, hown, _⟩ := hp
    rcases hown.2 with ⟨_, h2⟩ | ⟨g, cap, cur, hv, _⟩
    · cases h2
    · subst hv
      have c := hown.cells (g := g) rfl
      have c0 := c 0 (.int .i64 x) rfl
      have c1 := c 1 (.int .i64 y) rfl
      exact ⟨g, cap, he, by simpa [Addr.add] using c0, by simpa [Addr.add] using c1, hb⟩

theorem takeL_range (l : List UInt8) : ∀ (k u v : Nat) (r : List UInt8), u < 18446744073709551616 → takeL l k u = some (v, r) → v < 18446744073709551616 := by
  induction l with
  | nil => intro k u v r _ h; simp [takeL] at h
  | cons c l ih =>
    intro k u v r hu h
    rw [takeL] at h
    split at h
    · cases h
    · split at h
      · exact ih _ _ _ _ (acc_lt _ _ _ hu) h
      · split at h
        · cases h
        · simp at h; obtain ⟨rfl, _⟩ := h; exact acc_lt _ _ _ hu

theorem takeAllL_two (l : List UInt8) (xs : List Int) (r : List UInt8) (h : takeAllL 2 l = some (xs, r)) : ∃ x y, xs = [x, y] ∧ r.length < l.length := by
  rw [takeAllL] at h
  split at h
  · cases h
  · rename_i u r1 h1
    split at h
    · cases h
    · rename_i ys r' h2
      rw [takeAllL] at h2
      split at h2
      · cases h2
      · rename_i u2 r2 h3
        simp [takeAllL] at h2
        obtain ⟨rfl, rfl⟩ := h2
        simp at h
        obtain ⟨rfl, rfl⟩ := h
        have a := takeL_len _ _ _ _ _ h1
        have b := takeL_len _ _ _ _ _ h3
        exact ⟨_, _, rfl, by omega⟩

def TakeEntPost (s : ByteArray) (w : World) (e : Ending) (w' : World) : Prop :=
  e = .returned (takeEntV (takeEnt (tl s))) ∧ Below w.heap.size w w'

set_option maxHeartbeats 1000000 in
theorem takeEnt_1 (s : ByteArray) (w : World) (hs : s.size ≤ 140737488355000) (h : takeTextL (tl s) 131072 = none) :
    Calls Tryz.prog 24 #[.string s] w (TakeEntPost s w) := by
  have HF : Hid (takeEnt (tl s) = none) := by unfold takeEnt; rw [h]; exact hid rfl
  have H := hid h
  clear h
  go_enter Tryz.func24, Tryz.ntmps24
  go_wp2_with fail
  refine (takeText_none _ _ _ (by omega) H.out).mono ?_
  rintro e w1 ⟨rfl, hb⟩
  have hblk : Blk w1 w.heap.size #[.int .i64 0, .int .i64 0, .string ⟨#[]⟩] 37 := (Blk.new _ _ _).below' hb
  obtain ⟨c0, c1, c2, f0, f1, f2⟩ := hblk.c3
  go_wp2_with fail
  refine bodyPost_ret (v := .tuple #[.agg #[.int .i64 0, .int .i64 0, .string ⟨#[]⟩], .string ⟨#[]⟩, .int .i64 2]) (by simp [results, Tryz.results24, go_sem, c0, c1, c2]) rfl ⟨by rw [HF.out]; rfl, ?_⟩
  exact (((bel_next (bel_alloc (Below.refl _ _) _) hb).setCell (Nat.le_refl _) _).setCell (Nat.le_refl _) _).setCell (Nat.le_refl _) _

set_option maxHeartbeats 1000000 in
theorem takeEnt_2 (s : ByteArray) (w : World) (hs : s.size ≤ 140737488355000) (x r : List UInt8) (h : takeTextL (tl s) 131072 = some (x, r)) (hr : r.length < 4) :
    Calls Tryz.prog 24 #[.string s] w (TakeEntPost s w) := by
  have HF : Hid (takeEnt (tl s) = none) := hid (by unfold takeEnt; rw [h]; simp only [if_pos hr])
  have H := hid h
  have hbs : (bs r).size = r.length := rfl
  clear h
  go_enter Tryz.func24, Tryz.ntmps24
  go_wp2_with fail
  refine (takeText_some _ _ _ _ _ (by omega) H.out).mono ?_
  rintro e w1 ⟨rfl, hb⟩
  have hblk : Blk w1 w.heap.size #[.int .i64 0, .int .i64 0, .string ⟨#[]⟩] 37 := (Blk.new _ _ _).below' hb
  obtain ⟨c0, c1, c2, f0, f1, f2⟩ := hblk.c3
  go_wp2_with fail
  refine bodyPost_ret (v := .tuple #[.agg #[.int .i64 0, .int .i64 0, .string ⟨#[]⟩], .string ⟨#[]⟩, .int .i64 2]) (by simp [results, Tryz.results24, go_sem, c0, c1, c2]) rfl ⟨by rw [HF.out]; rfl, ?_⟩
  exact (((bel_next (bel_alloc (Below.refl _ _) _) hb).setCell (Nat.le_refl _) _).setCell (Nat.le_refl _) _).setCell (Nat.le_refl _) _

set_option maxHeartbeats 1000000 in
theorem takeEnt_3 (s : ByteArray) (w : World) (hs : s.size ≤ 140737488354900) (x r : List UInt8) (h : takeTextL (tl s) 131072 = some (x, r)) (hr : ¬ r.length < 4)
    (hu : unsealL ((tl s).take (s.size - r.length + 4)) = none) :
    Calls Tryz.prog 24 #[.string s] w (TakeEntPost s w) := by
  have hl := takeTextL_len _ _ _ _ h
  rw [tl_len] at hl
  have HF : Hid (takeEnt (tl s) = none) := hid (by unfold takeEnt; rw [h]; simp only [if_neg hr, tl_len, hu])
  have H := hid h
  have HU := hid hu
  have hbs : (bs r).size = r.length := rfl
  have hi : ((s.size : Int) - (r.length : Int) + 4) = ((s.size - r.length + 4 : Nat) : Int) := by omega
  have e1 := extract_take s (s.size - r.length + 4)
  clear h hu
  go_enter Tryz.func24, Tryz.ntmps24
  go_wp2_with fail
  refine (takeText_some _ _ _ _ _ (by omega) H.out).mono ?_
  rintro e w1 ⟨rfl, hb⟩
  have hblk : Blk w1 w.heap.size #[.int .i64 0, .int .i64 0, .string ⟨#[]⟩] 37 := (Blk.new _ _ _).below' hb
  go_wp2_with fail
  refine (unseal_none _ _ (by rw [bs_size, List.length_take]; omega) (by rw [tl_bs]; exact HU.out)).mono ?_
  rintro e w2 ⟨rfl, hb2⟩
  obtain ⟨c0, c1, c2, f0, f1, f2⟩ := (hblk.below' hb2).c3
  go_wp2_with fail
  refine bodyPost_ret (v := .tuple #[.agg #[.int .i64 0, .int .i64 0, .string ⟨#[]⟩], .string ⟨#[]⟩, .int .i64 2]) (by simp [results, Tryz.results24, go_sem, c0, c1, c2]) rfl ⟨by rw [HF.out]; rfl, ?_⟩
  exact (((bel_next (bel_next (bel_alloc (Below.refl _ _) _) hb) hb2).setCell (Nat.le_refl _) _).setCell (Nat.le_refl _) _).setCell (Nat.le_refl _) _

theorem takeText_body (s : ByteArray) (most : Int) (w : World) (hs : s.size ≤ 140737488355328) :
    Calls Tryz.prog 53 #[.string s, .int .i64 most] w fun e w' => ∃ r k, e = .returned (.tuple #[.string (bs (match takeTextL (tl s) most with | none => [] | some (b, _) => b)), .string r, .int .i64 k]) ∧ Below w.heap.size w w' := by
  refine (takeText_any s most w hs).mono fun e w' ⟨he, hw⟩ => ?_
  cases h : takeTextL (tl s) most with
  | none => rw [h] at he; exact ⟨_, _, he, hw⟩
  | some x => rw [h] at he; exact ⟨_, _, he, hw⟩

theorem body_len (t : List UInt8) : (match takeTextL t t.length with | none => [] | some (b, _) => b).length ≤ t.length := by
  cases h : takeTextL t t.length with
  | none => simp
  | some x =>
    obtain ⟨b, r⟩ := x
    have := takeTextL_len _ _ _ _ h
    simp only
    omega

set_option maxHeartbeats 1000000 in
theorem takeEnt_4 (s : ByteArray) (w : World) (hs : s.size ≤ 140737488354900) (x r t body : List UInt8) (h : takeTextL (tl s) 131072 = some (x, r)) (hr : ¬ r.length < 4)
    (hu : unsealL ((tl s).take (s.size - r.length + 4)) = some t) (hbd : body = (match takeTextL t t.length with | none => [] | some (b, _) => b)) (ha : takeAllL 2 body = none) :
    Calls Tryz.prog 24 #[.string s] w (TakeEntPost s w) := by
  have hl := takeTextL_len _ _ _ _ h
  rw [tl_len] at hl
  have HF : Hid (takeEnt (tl s) = none) := hid (by unfold takeEnt; rw [h]; simp only [if_neg hr, tl_len, hu, ← hbd, entOf, ha])
  have H := hid h
  have HU := hid hu
  have HB := hid hbd
  have HA := hid ha
  have htl : t.length ≤ s.size := by
    unfold unsealL at hu
    split at hu
    · simp at hu; rw [← hu]; simp [tl_len]; omega
    · cases hu
  have hbl := body_len t
  rw [← hbd] at hbl
  have hbs : (bs r).size = r.length := rfl
  have hbt : (bs t).size = t.length := rfl
  have hi : ((s.size : Int) - (r.length : Int) + 4) = ((s.size - r.length + 4 : Nat) : Int) := by omega
  have e1 := extract_take s (s.size - r.length + 4)
  clear h hu hbd ha
  go_enter Tryz.func24, Tryz.ntmps24
  go_wp2_with fail
  refine (takeText_some _ _ _ _ _ (by omega) H.out).mono ?_
  rintro e w1 ⟨rfl, hb⟩
  have hblk : Blk w1 w.heap.size #[.int .i64 0, .int .i64 0, .string ⟨#[]⟩] 37 := (Blk.new _ _ _).below' hb
  go_wp2_with fail
  refine (unseal_some _ _ _ (by rw [bs_size, List.length_take]; omega) (by rw [tl_bs]; exact HU.out)).mono ?_
  rintro e w2 ⟨rfl, hb2⟩
  have hblk2 := hblk.below' hb2
  go_wp2_with fail
  refine (takeText_body _ _ _ (by rw [hbt]; omega)).mono ?_
  rintro e w3 ⟨r3, k3, rfl, hb3⟩
  rw [tl_bs, ← HB.out]
  have hblk3 := hblk2.below' hb3
  go_wp2_with fail
  refine (takeAll2_none _ _ (by rw [bs_size]; omega) (by rw [tl_bs]; exact HA.out)).mono ?_
  rintro e w4 ⟨rfl, hb4⟩
  obtain ⟨c0, c1, c2, f0, f1, f2⟩ := (hblk3.below' hb4).c3
  go_wp2_with fail
  refine bodyPost_ret (v := .tuple #[.agg #[.int .i64 0, .int .i64 0, .string ⟨#[]⟩], .string ⟨#[]⟩, .int .i64 2]) (by simp [results, Tryz.results24, go_sem, c0, c1, c2]) rfl ⟨by rw [HF.out]; rfl, ?_⟩
  exact (((bel_next (bel_next (bel_next (bel_next (bel_alloc (Below.refl _ _) _) hb) hb2) hb3) hb4).setCell (Nat.le_refl _) _).setCell (Nat.le_refl _) _).setCell (Nat.le_refl _) _

/-- The road to the entry itself. -/
def Ent5 (s : ByteArray) (r t body text : List UInt8) (x y : Int) : Prop :=
  (∃ z, takeTextL (tl s) 131072 = some (z, r)) ∧ ¬ r.length < 4 ∧ unsealL ((tl s).take (s.size - r.length + 4)) = some t ∧
  body = (match takeTextL t t.length with | none => [] | some (b, _) => b) ∧ takeAllL 2 body = some ([x, y], text)

set_option maxHeartbeats 2000000 in
theorem takeEnt_5 (s : ByteArray) (w : World) (hs : s.size ≤ 140737488354900) (r t body text : List UInt8) (x y : Int) (h5 : Ent5 s r t body text x y) (hok : ¬ (Ent.mk x y text).ok) :
    Calls Tryz.prog 24 #[.string s] w (TakeEntPost s w) := by
  obtain ⟨⟨z, h⟩, hr, hu, hbd, ha⟩ := h5
  have hl := takeTextL_len _ _ _ _ h
  rw [tl_len] at hl
  have HF : Hid (takeEnt (tl s) = none) := hid (by unfold takeEnt; rw [h]; simp only [if_neg hr, tl_len, hu, ← hbd, entOf, ha, if_neg hok])
  have H := hid h
  have HU := hid hu
  have HB := hid hbd
  have HA := hid ha
  have HO := hid hok
  have htl : t.length ≤ s.size := by
    unfold unsealL at hu
    split at hu
    · simp at hu; rw [← hu]; simp [tl_len]; omega
    · cases hu
  have hbl := body_len t
  rw [← hbd] at hbl
  have hbs : (bs r).size = r.length := rfl
  have hbt : (bs t).size = t.length := rfl
  have hi : ((s.size : Int) - (r.length : Int) + 4) = ((s.size - r.length + 4 : Nat) : Int) := by omega
  have e1 := extract_take s (s.size - r.length + 4)
  clear h hu hbd ha hok
  go_enter Tryz.func24, Tryz.ntmps24
  go_wp2_with fail
  refine (takeText_some _ _ _ _ _ (by omega) H.out).mono ?_
  rintro e w1 ⟨rfl, hb⟩
  have hblk : Blk w1 w.heap.size #[.int .i64 0, .int .i64 0, .string ⟨#[]⟩] 37 := (Blk.new _ _ _).below' hb
  go_wp2_with fail
  refine (unseal_some _ _ _ (by rw [bs_size, List.length_take]; omega) (by rw [tl_bs]; exact HU.out)).mono ?_
  rintro e w2 ⟨rfl, hb2⟩
  have hblk2 := hblk.below' hb2
  go_wp2_with fail
  refine (takeText_body _ _ _ (by rw [hbt]; omega)).mono ?_
  rintro e w3 ⟨r3, k3, rfl, hb3⟩
  rw [tl_bs, ← HB.out]
  have hblk3 := hblk2.below' hb3
  go_wp2_with fail
  refine (takeAll2_some _ _ _ _ _ (by rw [bs_size]; omega) (by rw [tl_bs]; exact HA.out)).mono ?_
  rintro e w4 ⟨g, cap, rfl, d0, d1, hb4⟩
  have hblk4 := hblk3.below' hb4
  obtain ⟨c0, c1, c2, f0, f1, f2⟩ := hblk4.c3
  have hlt4 := hblk4.lt
  have hg := World.block_lt_of_cell? w4 _ d0
  simp only at hg
  go_wp2_with fail
  go_region_held3 (fun w' => w'.cell? ⟨g, 0, none⟩ = some (.int .i64 x) ∧ w'.cell? ⟨g, 1, none⟩ = some (.int .i64 y)) (go_keep) (fail)
  go_wp2_with fail
  refine (check_bad _ _ _ _ (by rw [bs_size]; exact HO.out)).mono ?_
  rintro e w5 ⟨rfl, hb5⟩
  obtain ⟨g0, g1, g2, k0, k1, k2⟩ := ((hblk4.alloc _).drew.below' hb5).c3
  clear c0 c1 c2 f0 f1 f2 d0 d1
  go_wp2_with fail
  refine bodyPost_ret (v := .tuple #[.agg #[.int .i64 0, .int .i64 0, .string ⟨#[]⟩], .string ⟨#[]⟩, .int .i64 2]) (by simp [results, Tryz.results24, go_sem, g0, g1, g2]) rfl ⟨by rw [HF.out]; rfl, ?_⟩
  exact (((bel_next (bel_alloc (bel_next (bel_next (bel_next (bel_next (bel_alloc (Below.refl _ _) _) hb) hb2) hb3) hb4) _).drew hb5).setCell (Nat.le_refl _) _).setCell (Nat.le_refl _) _).setCell (Nat.le_refl _) _

set_option maxHeartbeats 2000000 in
theorem takeEnt_6 (s : ByteArray) (w : World) (hs : s.size ≤ 140737488354900) (r t body text : List UInt8) (x y : Int) (h5 : Ent5 s r t body text x y) (hok : (Ent.mk x y text).ok) :
    Calls Tryz.prog 24 #[.string s] w (TakeEntPost s w) := by
  obtain ⟨⟨z, h⟩, hr, hu, hbd, ha⟩ := h5
  have hl := takeTextL_len _ _ _ _ h
  rw [tl_len] at hl
  have HF : Hid (takeEnt (tl s) = some (⟨x, y, text⟩, r.drop 4)) := hid (by unfold takeEnt; rw [h]; simp only [if_neg hr, tl_len, hu, ← hbd, entOf, ha, if_pos hok])
  have H := hid h
  have HU := hid hu
  have HB := hid hbd
  have HA := hid ha
  have HO := hid hok
  have htl : t.length ≤ s.size := by
    unfold unsealL at hu
    split at hu
    · simp at hu; rw [← hu]; simp [tl_len]; omega
    · cases hu
  have hbl := body_len t
  rw [← hbd] at hbl
  have hbs : (bs r).size = r.length := rfl
  have hbt : (bs t).size = t.length := rfl
  have hi : ((s.size : Int) - (r.length : Int) + 4) = ((s.size - r.length + 4 : Nat) : Int) := by omega
  have e1 := extract_take s (s.size - r.length + 4)
  have e2 := extract_drop (bs r) 4
  rw [tl_bs, hbs] at e2
  have h4 : (4 : Int) ≤ (r.length : Int) := by omega
  clear h hu hbd ha hok
  go_enter Tryz.func24, Tryz.ntmps24
  go_wp2_with fail
  refine (takeText_some _ _ _ _ _ (by omega) H.out).mono ?_
  rintro e w1 ⟨rfl, hb⟩
  have hblk : Blk w1 w.heap.size #[.int .i64 0, .int .i64 0, .string ⟨#[]⟩] 37 := (Blk.new _ _ _).below' hb
  go_wp2_with fail
  refine (unseal_some _ _ _ (by rw [bs_size, List.length_take]; omega) (by rw [tl_bs]; exact HU.out)).mono ?_
  rintro e w2 ⟨rfl, hb2⟩
  have hblk2 := hblk.below' hb2
  go_wp2_with fail
  refine (takeText_body _ _ _ (by rw [hbt]; omega)).mono ?_
  rintro e w3 ⟨r3, k3, rfl, hb3⟩
  rw [tl_bs, ← HB.out]
  have hblk3 := hblk2.below' hb3
  go_wp2_with fail
  refine (takeAll2_some _ _ _ _ _ (by rw [bs_size]; omega) (by rw [tl_bs]; exact HA.out)).mono ?_
  rintro e w4 ⟨g, cap, rfl, d0, d1, hb4⟩
  have hblk4 := hblk3.below' hb4
  obtain ⟨c0, c1, c2, f0, f1, f2⟩ := hblk4.c3
  have hlt4 := hblk4.lt
  have hg := World.block_lt_of_cell? w4 _ d0
  simp only at hg
  go_wp2_with fail
  go_region_held3 (fun w' => w'.cell? ⟨g, 0, none⟩ = some (.int .i64 x) ∧ w'.cell? ⟨g, 1, none⟩ = some (.int .i64 y)) (go_keep) (fail)
  go_wp2_with fail
  obtain ⟨o1, o2, o3, o4, o5⟩ := HO.out
  refine (check_ok x y (bs text) _ o1 o2 o3 o4 (by rw [bs_size]; exact o5)).mono ?_
  rintro e w5 ⟨rfl, hb5⟩
  have hblk5 : Blk w5 w4.heap.size #[.int .i64 x, .int .i64 y, .string (bs text)] 37 := (Blk.drew (Blk.new _ _ _)).below' hb5
  obtain ⟨g0, g1, g2, k0, k1, k2⟩ := ((hblk4.alloc _).drew.below' hb5).c3
  obtain ⟨m0, m1, m2, n0, n1, n2⟩ := hblk5.c3
  have hlt5 := hblk5.lt
  have hne : w.heap.size ≠ w4.heap.size := by omega
  have hne2 : w4.heap.size ≠ w.heap.size := by omega
  clear c0 c1 c2 f0 f1 f2 d0 d1
  go_wp2_with fail
  go_region_held3 (fun w' => w'.cell? ⟨w4.heap.size, 0, none⟩ = some (.int .i64 x) ∧ w'.cell? ⟨w4.heap.size, 1, none⟩ = some (.int .i64 y) ∧ w'.cell? ⟨w4.heap.size, 2, none⟩ = some (.string (bs text))) (go_keep) (fail)
  go_wp2_with fail
  refine bodyPost_ret (v := .tuple #[.agg #[.int .i64 x, .int .i64 y, .string (bs text)], .string (bs (r.drop 4)), .int .i64 0]) (by simp [results, Tryz.results24, go_sem, g0, g1, g2]) rfl ⟨by rw [HF.out]; rfl, ?_⟩
  exact ((((bel_next (bel_alloc (bel_next (bel_next (bel_next (bel_next (bel_alloc (Below.refl _ _) _) hb) hb2) hb3) hb4) _).drew hb5).setCell (Nat.le_refl _) _).setCell (Nat.le_refl _) _).setCell (Nat.le_refl _) _).drew

/-- **frame.Take**: the entry with whose frame bytes begin, or none. -/
theorem takeEnt_any (s : ByteArray) (w : World) (hs : s.size ≤ 140737488354900) :
    Calls Tryz.prog 24 #[.string s] w fun e w' => e = .returned (takeEntV (takeEnt (tl s))) ∧ Below w.heap.size w w' := by
  change Calls _ _ _ _ (TakeEntPost s w)
  cases h1 : takeTextL (tl s) 131072 with
  | none => exact takeEnt_1 s w (by omega) h1
  | some zr =>
    obtain ⟨z, r⟩ := zr
    by_cases hr : r.length < 4
    · exact takeEnt_2 s w (by omega) z r h1 hr
    · cases hu : unsealL ((tl s).take (s.size - r.length + 4)) with
      | none => exact takeEnt_3 s w hs z r h1 hr hu
      | some t =>
        obtain ⟨body, hbd⟩ : ∃ body, body = (match takeTextL t t.length with | none => [] | some (b, _) => b) := ⟨_, rfl⟩
        cases ha : takeAllL 2 body with
        | none => exact takeEnt_4 s w hs z r t body h1 hr hu hbd ha
        | some xt =>
          obtain ⟨xs, text⟩ := xt
          obtain ⟨x, y, rfl, _⟩ := takeAllL_two _ _ _ ha
          by_cases hok : (Ent.mk x y text).ok
          · exact takeEnt_6 s w hs r t body text x y ⟨⟨z, h1⟩, hr, hu, hbd, ha⟩ hok
          · exact takeEnt_5 s w hs r t body text x y ⟨⟨z, h1⟩, hr, hu, hbd, ha⟩ hok

end Go.Proofs.YtnibpknhpjcamaaGreatDoor
