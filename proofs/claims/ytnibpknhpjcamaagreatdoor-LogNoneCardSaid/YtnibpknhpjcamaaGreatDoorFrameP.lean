/-
  Frames on lists of bytes: what is laid is taken again; a frame that is cut off is none. No conditions.
-/
import Derived.Test.YtnibpknhpjcamaaGreatDoorFrameE
set_option maxRecDepth 100000
namespace Go.Proofs.YtnibpknhpjcamaaGreatDoor
open Go.RowKit

theorem acc_add {u k c : Nat} (hu : u < 2 ^ (7 * k)) (h : (c % 128) * 2 ^ (7 * k) < 18446744073709551616) : acc u k c = u + (c % 128) * 2 ^ (7 * k) := by
  unfold acc
  rw [Nat.mod_eq_of_lt h, Nat.mul_comm, Nat.or_comm, ← Nat.two_pow_add_eq_or_of_lt hu]
  omega

theorem u8_small {n : Nat} (h : n < 256) : (UInt8.ofNat n).toNat = n := by simp; omega

theorem takeL_leb (d : Nat) : ∀ (v u k : Nat) (r : List UInt8), v ≤ d → k ≤ 9 → u < 2 ^ (7 * k) → u + v * 2 ^ (7 * k) < 18446744073709551616 → (1 ≤ k → 0 < v) →
    takeL (leb v ++ r) k u = some (u + v * 2 ^ (7 * k), r) := by
  induction d using Nat.strongRecOn with
  | _ d ih =>
    intro v u k r hv hk hu hs hp
    by_cases h : v < 128
    · rw [leb_small h]
      simp only [List.cons_append, List.nil_append]
      have hc : (UInt8.ofNat v).toNat = v := u8_small (by omega)
      rw [takeL, hc, if_neg (by omega), if_neg (by omega), if_neg, acc_add hu (by rw [Nat.mod_eq_of_lt h]; omega), Nat.mod_eq_of_lt h]
      rintro (⟨h1, h2⟩ | ⟨h1, h2⟩)
      · have := hp h1; omega
      · subst h1; omega
    · rw [leb_big h]
      simp only [List.cons_append]
      have hc : (UInt8.ofNat (v % 128 + 128)).toNat = v % 128 + 128 := u8_small (by omega)
      have hm : (v % 128 + 128) % 128 = v % 128 := by omega
      have hpw : 2 ^ (7 * (k + 1)) = 128 * 2 ^ (7 * k) := by rw [show 7 * (k + 1) = 7 * k + 7 from by omega, Nat.pow_add]; omega
      have hdm : v % 128 * 2 ^ (7 * k) + v / 128 * 2 ^ (7 * (k + 1)) = v * 2 ^ (7 * k) := by
        rw [hpw, ← Nat.mul_assoc, ← Nat.add_mul]; congr 1; omega
      have hpos : 0 < 2 ^ (7 * k) := Nat.pow_pos (by omega)
      have hk2 : k + 1 ≤ 9 := by
        have h1 : 128 * 2 ^ (7 * k) ≤ v * 2 ^ (7 * k) := Nat.mul_le_mul_right _ (by omega)
        rw [← hpw] at h1
        have h2 : 2 ^ (7 * (k + 1)) < 2 ^ 64 := by omega
        have h3 := (Nat.pow_lt_pow_iff_right (by omega : 1 < 2)).1 h2
        omega
      rw [takeL, hc, if_neg (by omega), if_pos (by omega), acc_add hu (by rw [hm]; omega), hm]
      have hlt : v % 128 * 2 ^ (7 * k) ≤ 127 * 2 ^ (7 * k) := Nat.mul_le_mul_right _ (by omega)
      rw [ih (v / 128) (by omega) (v / 128) _ (k + 1) r (Nat.le_refl _) hk2 (by rw [hpw]; omega) (by rw [Nat.add_assoc, hdm]; exact hs) (by intro _; omega), Nat.add_assoc, hdm]

theorem takeL_torn (d : Nat) : ∀ (v u k j : Nat), v ≤ d → j < (leb v).length → takeL ((leb v).take j) k u = none := by
  induction d using Nat.strongRecOn with
  | _ d ih =>
    intro v u k j hv hj
    by_cases h : v < 128
    · rw [leb_small h] at hj ⊢
      have : j = 0 := by simpa using hj
      subst this
      rfl
    · rw [leb_big h] at hj ⊢
      cases j with
      | zero => rfl
      | succ j =>
        have hc : (UInt8.ofNat (v % 128 + 128)).toNat = v % 128 + 128 := u8_small (by omega)
        rw [List.take_succ_cons, takeL, hc]
        by_cases hk : k = 10
        · rw [if_pos hk]
        · rw [if_neg hk, if_pos (by omega)]
          exact ih (v / 128) (by omega) (v / 128) _ _ j (Nat.le_refl _) (by simpa using hj)

theorem unzig_zig {n : Int} : unzig (zig n) = n := by
  unfold unzig zig
  split <;> split <;> omega

theorem takeL_put {n : Int} (h0 : -9223372036854775808 ≤ n) (h1 : n ≤ 9223372036854775807) (r : List UInt8) : takeL (putL n ++ r) 0 0 = some (zig n, r) := by
  have h := takeL_leb (zig n) (zig n) 0 0 r (Nat.le_refl _) (by omega) (by simp) (by simpa using zig_lt h0 h1) (by omega)
  simpa [putL] using h

theorem takeTextL_put {s r : List UInt8} {m : Int} (hs : s.length ≤ 9223372036854775807) (hm : (s.length : Int) ≤ m) : takeTextL (putTextL s ++ r) m = some (s, r) := by
  unfold takeTextL putTextL
  rw [List.append_assoc, takeL_put (by omega) (by omega)]
  simp only [unzig_zig]
  rw [if_neg (by simp; omega)]
  simp

theorem takeAllL_two_put {a b : Int} (ha : -9223372036854775808 ≤ a ∧ a ≤ 9223372036854775807) (hb : -9223372036854775808 ≤ b ∧ b ≤ 9223372036854775807) (t : List UInt8) : takeAllL 2 (putAllL [a, b] ++ t) = some ([a, b], t) := by
  have e : putAllL [a, b] ++ t = putL a ++ (putL b ++ t) := by unfold putAllL; simp
  rw [e, takeAllL, takeL_put ha.1 ha.2]
  simp only
  rw [takeAllL, takeL_put hb.1 hb.2]
  simp only [takeAllL, unzig_zig]

theorem sealL_len (l : List UInt8) : (sealL l).length = l.length + 4 := by unfold sealL; simp [sum4_len]

theorem unsealL_seal (l : List UInt8) : unsealL (sealL l) = some l := by
  unfold unsealL
  have h : (sealL l).take ((sealL l).length - 4) = l := by
    rw [sealL_len, Nat.add_sub_cancel]; unfold sealL; simp
  rw [if_pos ⟨by rw [sealL_len]; omega, by rw [h]⟩, h]

/-- What a frame's text is. -/
def Ent.body (e : Ent) : List UInt8 := putAllL [e.base, e.n] ++ e.text

theorem Ent.body_len {e : Ent} (h : e.ok) : e.body.length ≤ 65556 := by
  obtain ⟨h1, h2, h3, h4, h5⟩ := h
  have hp : (putAllL [e.base, e.n]).length ≤ 20 := putAllL_len _ (by
    intro x hx
    simp at hx
    rcases hx with rfl | rfl <;> omega)
  unfold Ent.body; simp; omega

theorem entOf_body {e : Ent} (h : e.ok) : entOf e.body = some e := by
  have h2 := h
  obtain ⟨h1, h2, h3, h4, h5⟩ := h
  unfold entOf Ent.body
  rw [takeAllL_two_put (by omega) (by omega)]
  simp only
  rw [if_pos (by assumption)]

/-- A frame is taken again. -/
theorem takeEnt_lay {e : Ent} (h : e.ok) (r : List UInt8) : takeEnt (e.lay ++ r) = some (e, r) := by
  have hb := e.body_len h
  have hlay : e.lay ++ r = putTextL e.body ++ (sum4 (crcMore 0 (putTextL e.body)) ++ r) := by
    show sealL (putTextL e.body) ++ r = _
    unfold sealL; rw [List.append_assoc]
  unfold takeEnt
  have h1 : takeTextL (e.lay ++ r) 131072 = some (e.body, sum4 (crcMore 0 (putTextL e.body)) ++ r) := by
    rw [hlay]; exact takeTextL_put (by omega) (by omega)
  rw [h1]
  simp only
  rw [if_neg (by simp [sum4_len])]
  have h2 : (e.lay ++ r).take ((e.lay ++ r).length - (sum4 (crcMore 0 (putTextL e.body)) ++ r).length + 4) = sealL (putTextL e.body) := by
    have hl : e.lay.length = (putTextL e.body).length + 4 := sealL_len _
    have : (e.lay ++ r).length - (sum4 (crcMore 0 (putTextL e.body)) ++ r).length + 4 = e.lay.length := by
      rw [List.length_append, List.length_append, sum4_len, hl]; omega
    rw [this, List.take_left]; rfl
  rw [h2, unsealL_seal]
  simp only
  have h3 : takeTextL (putTextL e.body) (putTextL e.body).length = some (e.body, []) := by
    have := takeTextL_put (s := e.body) (r := []) (m := (putTextL e.body).length) (by omega) (by unfold putTextL; simp; omega)
    rwa [List.append_nil] at this
  rw [h3]
  simp only
  rw [entOf_body h]
  simp only [Option.some.injEq, Prod.mk.injEq, true_and]
  rw [show (4 : Nat) = (sum4 (crcMore 0 (putTextL e.body))).length from rfl, List.drop_left]

/-- A frame that is cut off is none. -/
theorem takeEnt_torn {e : Ent} (h : e.ok) {j : Nat} (hj : j < e.lay.length) : takeEnt (e.lay.take j) = none := by
  have hb := e.body_len h
  have hlay : e.lay = putL e.body.length ++ (e.body ++ sum4 (crcMore 0 (putTextL e.body))) := by
    show sealL (putTextL e.body) = _
    unfold sealL putTextL; rw [List.append_assoc]
  unfold takeEnt
  by_cases h1 : j < (putL e.body.length).length
  · have : takeTextL (e.lay.take j) 131072 = none := by
      unfold takeTextL
      rw [hlay, List.take_append_of_le_length (by omega)]
      have := takeL_torn (zig e.body.length) (zig e.body.length) 0 0 j (Nat.le_refl _) h1
      unfold putL
      rw [this]
    rw [this]
  · obtain ⟨q, rfl⟩ : ∃ q, j = (putL e.body.length).length + q := ⟨j - (putL e.body.length).length, by omega⟩
    have hq : q < e.body.length + 4 := by
      rw [hlay] at hj
      simp only [List.length_append, sum4_len] at hj
      omega
    have ht : e.lay.take ((putL e.body.length).length + q) = putL e.body.length ++ (e.body ++ sum4 (crcMore 0 (putTextL e.body))).take q := by
      rw [hlay, List.take_length_add_append]
    have hlen : ((e.body ++ sum4 (crcMore 0 (putTextL e.body))).take q).length = q := by
      rw [List.length_take, List.length_append, sum4_len]; omega
    have h2 : takeTextL (e.lay.take ((putL e.body.length).length + q)) 131072 = if (q : Int) < e.body.length then none else some (e.body, (sum4 (crcMore 0 (putTextL e.body))).take (q - e.body.length)) := by
      unfold takeTextL
      rw [ht, takeL_put (by omega) (by omega)]
      simp only [unzig_zig, hlen]
      by_cases hqb : (q : Int) < e.body.length
      · rw [if_pos (by omega), if_pos hqb]
      · rw [if_neg (by omega), if_neg hqb]
        congr 1
        rw [Int.toNat_natCast, List.take_take, Nat.min_eq_left (by omega), List.take_append_of_le_length (Nat.le_refl _), List.take_length]
        congr 1
        rw [List.take_append, List.drop_append, List.take_of_length_le (by omega)]
        simp
    rw [h2]
    by_cases hqb : (q : Int) < e.body.length
    · rw [if_pos hqb]
    · rw [if_neg hqb]
      simp only
      rw [if_pos (by rw [List.length_take, sum4_len]; omega)]

end Go.Proofs.YtnibpknhpjcamaaGreatDoor
