/-
  Batches of records, plain: which may be, how they are laid, and read. No conditions.
  batch: within, may, Check, Len: the walks. Conditions: records that read.
  batch: Check: the walk. Conditions: records that read.
  batch: PutRecord, Encode: the walks. Conditions: records that read.
  batch: TakeRecord, Decode, of a text that is a batch: the walks. No conditions but a text that fits.
-/
import Derived.Test.YtgjkjkeeblbjlaaGreatDoorGBM
import Derived.Test.YtgjkjkeeblbjlaaGreatDoorGPM
import Derived.Test.YtgjkjkeeblbjlaaGreatDoorGAM
import Derived.Deep.DeepCutAuto
import Derived.Deep.Slices
import Derived.BigRegion
import Derived.Test.YtgjkjkeeblbjlaaGreatDoorGEM
set_option maxRecDepth 100000
namespace Go.Proofs.YtgjkjkeeblbjlaaGreatDoor
open Go.RowKit

theorem takeAll_put : ∀ (xs : List Int) (t : List UInt8), (∀ x ∈ xs, -9223372036854775808 ≤ x ∧ x ≤ 9223372036854775807) → takeAllL xs.length (putAllL xs ++ t) = some (xs, t)
  | [], t, _ => rfl
  | x :: xs, t, h => by
    have hx := h x (by simp)
    have e : putAllL (x :: xs) ++ t = putL x ++ (putAllL xs ++ t) := by simp [putAllL]
    rw [e, List.length_cons, takeAllL, takeL_put hx.1 hx.2]
    dsimp only
    rw [takeAll_put xs t (fun y hy => h y (by simp [hy]))]
    dsimp only
    rw [unzig_zig]

structure PRec where
  key : Int
  time : Int
  text : List UInt8
deriving DecidableEq

structure PBat where
  kind : Int
  pid : Int
  epoch : Int
  seq : Int
  l : List PRec
deriving DecidableEq

/-- Is it from 0 to MaxNum? -/
def inNum (n : Int) : Prop := 0 ≤ n ∧ n ≤ 1099511627776
instance inNumDec (n : Int) : Decidable (inNum n) := by unfold inNum; infer_instance

/-- May a record be? -/
def PRec.ok (r : PRec) : Prop := (inNum r.key ∧ inNum r.time) ∧ r.key ≤ 1048576 ∧ r.text.length ≤ 512
instance precOkDec (r : PRec) : Decidable r.ok := by unfold PRec.ok; infer_instance

def PBat.nobody (b : PBat) : Prop := b.pid = 0 ∧ b.epoch = 0 ∧ b.seq = 0
def PBat.somebody (b : PBat) : Prop := 0 < b.pid ∧ 0 < b.epoch
instance nobodyDec (b : PBat) : Decidable b.nobody := by unfold PBat.nobody; infer_instance
instance somebodyDec (b : PBat) : Decidable b.somebody := by unfold PBat.somebody; infer_instance

/-- What a kind asks. -/
def PBat.fits (b : PBat) : Prop :=
  (b.kind = 1 ∧ b.l ≠ [] ∧ (b.nobody ∨ b.somebody)) ∨ (b.kind = 2 ∧ b.l ≠ [] ∧ b.somebody) ∨ ((b.kind = 3 ∨ b.kind = 4) ∧ b.l = [] ∧ b.somebody ∧ b.seq = 0)
instance batFitsDec (b : PBat) : Decidable b.fits := by unfold PBat.fits; infer_instance

/-- May the numbers be, and how many records there are? -/
def PBat.nums (b : PBat) : Prop := (inNum b.pid ∧ inNum b.epoch ∧ inNum b.seq) ∧ b.pid ≤ 8 ∧ b.l.length ≤ 64
instance batNumsDec (b : PBat) : Decidable b.nums := by unfold PBat.nums; infer_instance

/-- May a batch be? -/
def PBat.ok (b : PBat) : Prop := b.nums ∧ (∀ r ∈ b.l, r.ok) ∧ b.fits
instance batOkDec (b : PBat) : Decidable b.ok := by unfold PBat.ok; infer_instance

/-- How many offsets it takes. -/
def PBat.len (b : PBat) : Int := max 1 (b.l.length : Int)

def PRec.lay (r : PRec) : List UInt8 := putAllL [r.key, r.time] ++ putTextL r.text
def recsLay (l : List PRec) : List UInt8 := l.flatMap PRec.lay
def PBat.head (b : PBat) : List Int := [b.kind, b.pid, b.epoch, b.seq, b.l.length]
def PBat.lay (b : PBat) : List UInt8 := putAllL b.head ++ recsLay b.l

/-- The record with which bytes begin. -/
def takeRec (s : List UInt8) : Option (PRec × List UInt8) := match takeAllL 2 s with
  | some ([k, t], r) => match takeTextL r 512 with
    | some (x, r2) => if (PRec.mk k t x).ok then some (⟨k, t, x⟩, r2) else none
    | none => none
  | _ => none

def takeRecs : Nat → List UInt8 → Option (List PRec × List UInt8)
  | 0, s => some ([], s)
  | n + 1, s => match takeRec s with
    | none => none
    | some (r, s2) => match takeRecs n s2 with
      | none => none
      | some (l, s3) => some (r :: l, s3)

/-- The batch that a text is. -/
def batOf (t : List UInt8) : Option PBat := match takeAllL 5 t with
  | some ([k, p, e, q, n], r) => if n < 0 ∨ 64 < n then none else match takeRecs n.toNat r with
    | some (l, []) => if (PBat.mk k p e q l).ok then some ⟨k, p, e, q, l⟩ else none
    | _ => none
  | _ => none

theorem takeRec_lay {r : PRec} (h : r.ok) (t : List UInt8) : takeRec (r.lay ++ t) = some (r, t) := by
  obtain ⟨⟨⟨h1, h2⟩, h3, h4⟩, _, h5⟩ := h
  unfold takeRec PRec.lay
  rw [List.append_assoc, takeAllL_two_put (by omega) (by omega)]
  dsimp only
  rw [takeTextL_put (by omega) (by omega)]
  dsimp only
  rw [if_pos (show (PRec.mk r.key r.time r.text).ok from ⟨⟨⟨h1, h2⟩, h3, h4⟩, by assumption, h5⟩)]

theorem takeRecs_lay : ∀ (l : List PRec) (t : List UInt8), (∀ r ∈ l, r.ok) → takeRecs l.length (recsLay l ++ t) = some (l, t)
  | [], t, _ => rfl
  | r :: l, t, h => by
    have e : recsLay (r :: l) ++ t = r.lay ++ (recsLay l ++ t) := by simp [recsLay]
    rw [e, List.length_cons, takeRecs, takeRec_lay (h r (by simp))]
    dsimp only
    rw [takeRecs_lay l t (fun x hx => h x (by simp [hx]))]

theorem PBat.ok.kind_in {b : PBat} (h : b.ok) : 1 ≤ b.kind ∧ b.kind ≤ 4 := by
  rcases h.2.2 with ⟨h1, _⟩ | ⟨h1, _⟩ | ⟨h1, _⟩ <;> omega

theorem PBat.ok.head_in {b : PBat} (h : b.ok) : ∀ x ∈ b.head, 0 ≤ x ∧ x ≤ 1099511627776 := by
  have hk := h.kind_in
  obtain ⟨⟨⟨⟨h1, h2⟩, ⟨h3, h4⟩, h5, h6⟩, _, h7⟩, _, _⟩ := h
  intro x hx
  simp only [PBat.head, List.mem_cons, List.not_mem_nil, or_false] at hx
  rcases hx with rfl | rfl | rfl | rfl | rfl <;> omega

theorem batOf_lay {b : PBat} (h : b.ok) : batOf b.lay = some b := by
  have h1 := takeAll_put b.head (recsLay b.l) (fun x hx => by have := h.head_in x hx; omega)
  have h2 : takeAllL 5 (putAllL b.head ++ recsLay b.l) = some ([b.kind, b.pid, b.epoch, b.seq, (b.l.length : Int)], recsLay b.l) := h1
  have h3 := takeRecs_lay b.l [] h.2.1
  rw [List.append_nil] at h3
  have h4 := h.1.2.2
  unfold batOf PBat.lay
  rw [h2]
  dsimp only
  rw [if_neg (by omega), Int.toNat_natCast, h3]
  dsimp only
  rw [if_pos (show (PBat.mk b.kind b.pid b.epoch b.seq b.l).ok from h)]

theorem batOf_some {t : List UInt8} {b : PBat} (h : batOf t = some b) : ∃ r, takeAllL 5 t = some (b.head, r) ∧ takeRecs b.l.length r = some (b.l, []) ∧ b.ok := by
  unfold batOf at h
  split at h
  · rename_i k p e q n r he
    split at h
    · cases h
    · rename_i hn
      split at h
      · rename_i l hl
        split at h
        · rename_i hok
          simp only [Option.some.injEq] at h
          subst h
          have hlen : l.length = n.toNat := by
            clear he hok
            have : ∀ (m : Nat) (s : List UInt8) (l : List PRec) (t : List UInt8), takeRecs m s = some (l, t) → l.length = m := by
              intro m
              induction m with
              | zero => intro s l t h9; simp [takeRecs] at h9; simp [h9.1]
              | succ m ih =>
                intro s l t h9
                rw [takeRecs] at h9
                split at h9
                · cases h9
                · rename_i x s2 _
                  split at h9
                  · cases h9
                  · rename_i l2 s3 h8
                    simp only [Option.some.injEq, Prod.mk.injEq] at h9
                    rw [← h9.1, List.length_cons, ih _ _ _ h8]
            exact this _ _ _ _ hl
          refine ⟨r, ?_, by dsimp only; rw [hlen]; exact hl, hok⟩
          have : ((l.length : Int)) = n := by omega
          unfold PBat.head
          dsimp only
          rw [this]
          exact he
        · cases h
      · cases h
  · cases h

theorem putL_le6 {n : Int} (h0 : 0 ≤ n) (h1 : n ≤ 1099511627776) : (putL n).length ≤ 10 := putL_len n (by omega) (by omega)

theorem PRec.ok.lay_len {r : PRec} (h : r.ok) : r.lay.length ≤ 542 := by
  obtain ⟨⟨⟨h1, h2⟩, h3, h4⟩, _, h5⟩ := h
  have a1 := putL_le6 h1 h2
  have a2 := putL_le6 h3 h4
  have a3 := putL_le6 (n := (r.text.length : Int)) (by omega) (by omega)
  unfold PRec.lay putTextL putAllL
  simp only [List.map_cons, List.map_nil, List.flatten_cons, List.flatten_nil, List.length_append, List.length_nil]
  omega

theorem recsLay_len : ∀ (l : List PRec), (∀ r ∈ l, r.ok) → (recsLay l).length ≤ 542 * l.length
  | [], _ => by simp [recsLay]
  | r :: l, h => by
    have h1 := (h r (by simp)).lay_len
    have h2 := recsLay_len l (fun x hx => h x (by simp [hx]))
    have e : recsLay (r :: l) = r.lay ++ recsLay l := rfl
    rw [e, List.length_append, List.length_cons]
    omega

theorem PBat.ok.lay_len {b : PBat} (h : b.ok) : b.lay.length ≤ 34738 := by
  have h1 := putAllL_len b.head (fun x hx => by have := h.head_in x hx; omega)
  have h2 := recsLay_len b.l h.2.1
  have h3 := h.1.2.2
  have h4 : b.head.length = 5 := rfl
  unfold PBat.lay
  rw [List.length_append]
  omega
end Go.Proofs.YtgjkjkeeblbjlaaGreatDoor

namespace Go.Proofs.YtgjkjkeeblbjlaaGreatDoor
open Go.RowKit

def PRec.cells (r : PRec) : List Value := [.int .i64 r.key, .int .i64 r.time, .string (bs r.text)]
def recCells (l : List PRec) : List Value := l.flatMap PRec.cells
def PRec.val (r : PRec) : Value := .agg #[.int .i64 r.key, .int .i64 r.time, .string (bs r.text)]
/-- Records that read. -/
def InRecs (w : World) (v : Value) (l : List PRec) : Prop :=
  ∃ ad cap, v = .slice ad l.length cap ∧ l.length ≤ cap ∧ cap ≤ maxLen ∧ ∀ j u, (recCells l)[j]? = some u → ∃ a, ad = some a ∧ w.cell? (a.add j) = some u
def PBat.val (b : PBat) (K : Value) : Value := .agg #[.int .i64 b.kind, .int .i64 b.pid, .int .i64 b.epoch, .int .i64 b.seq, K]

theorem recCells_len (l : List PRec) : (recCells l).length = l.length * 3 := by
  induction l with
  | nil => rfl
  | cons x l ih =>
    have e : recCells (x :: l) = x.cells ++ recCells l := rfl
    have e2 : x.cells.length = 3 := rfl
    rw [e, List.length_append, ih, e2, List.length_cons]; omega
theorem recCells_app (a b : List PRec) : recCells (a ++ b) = recCells a ++ recCells b := by unfold recCells; rw [List.flatMap_append]

theorem recCells_at : ∀ (l : List PRec) (k : Nat) (x : PRec), l[k]? = some x → ∀ r, r < 3 → (recCells l)[k * 3 + r]? = x.cells[r]?
  | [], _, _, h, _, _ => by simp at h
  | y :: l, 0, x, h, r, hr => by
    simp at h
    subst h
    have e : recCells (y :: l) = y.cells ++ recCells l := rfl
    have e2 : y.cells.length = 3 := rfl
    rw [e, Nat.zero_mul, Nat.zero_add, List.getElem?_append_left (by omega)]
  | y :: l, k + 1, x, h, r, hr => by
    have := recCells_at l k x (by simpa using h) r hr
    have e : recCells (y :: l) = y.cells ++ recCells l := rfl
    have e2 : y.cells.length = 3 := rfl
    rw [e, List.getElem?_append_right (by omega), e2, show (k + 1) * 3 + r - 3 = k * 3 + r from by omega]
    exact this

theorem addr_off8 (a : Addr) (i j : Nat) (hj : j ≠ 0) : a.add (i + j) = ⟨(a.add i).block, (a.add i).off + j, none⟩ := by
  rw [← Go.Deep.add_add]
  generalize a.add i = b
  unfold Addr.add
  simp [hj]

/-- A record that reads, at its address. -/
theorem InRecs.at {w : World} {ad : Option Addr} {n cap : Nat} {l : List PRec} (h : InRecs w (.slice ad n cap) l) {k : Nat} {x : PRec} (hx : l[k]? = some x) :
    ∃ a, ad = some a ∧ w.cell? (a.add (k * 3)) = some (.int .i64 x.key) ∧ w.cell? ⟨(a.add (k * 3)).block, (a.add (k * 3)).off + 1, none⟩ = some (.int .i64 x.time) ∧ w.cell? ⟨(a.add (k * 3)).block, (a.add (k * 3)).off + 2, none⟩ = some (.string (bs x.text)) := by
  obtain ⟨ad', cap', e, _, _, h2⟩ := h
  injection e with e _ _
  subst e
  have h9 := fun r hr => recCells_at l k x hx r hr
  obtain ⟨a, rfl, c0⟩ := h2 (k * 3 + 0) (.int .i64 x.key) (by rw [h9 0 (by omega)]; rfl)
  obtain ⟨a1, e1, c1⟩ := h2 (k * 3 + 1) (.int .i64 x.time) (by rw [h9 1 (by omega)]; rfl)
  obtain ⟨a2, e2, c2⟩ := h2 (k * 3 + 2) (.string (bs x.text)) (by rw [h9 2 (by omega)]; rfl)
  injection e1 with e1
  injection e2 with e2
  subst e1 e2
  rw [addr_off8 a (k * 3) 1 (by omega)] at c1
  rw [addr_off8 a (k * 3) 2 (by omega)] at c2
  exact ⟨a, rfl, c0, c1, c2⟩

theorem InRecs.form {w : World} {v : Value} {l : List PRec} (h : InRecs w v l) : ∃ ad cap, v = .slice ad l.length cap ∧ l.length ≤ cap ∧ cap ≤ maxLen := by
  obtain ⟨ad, cap, e, h1, h2, _⟩ := h
  exact ⟨ad, cap, e, h1, h2⟩

theorem InRecs.below {w w' : World} {v : Value} {l : List PRec} (h : InRecs w v l) (hb : Below w.heap.size w w') : InRecs w' v l := by
  obtain ⟨ad, cap, h2, h3, h4, h5⟩ := h
  refine ⟨ad, cap, h2, h3, h4, fun j u hu => ?_⟩
  obtain ⟨a, ha, hc⟩ := h5 j u hu
  exact ⟨a, ha, (hb.cell (p := a.add j) (World.block_lt_of_cell? w _ hc)).trans hc⟩

set_option maxHeartbeats 1000000 in
theorem bwithin1_any (n : Int) (w : World) : Calls Tryz.prog 97 #[.int .i64 n] w fun e w' => e = .returned (.bool (!decide (inNum n))) ∧ w = w' := by
  by_cases h1 : n < 0
  · skip
    have hp : decide (inNum n) = false := decide_eq_false (by unfold inNum; omega)
    rw [hp]
    go_enter Tryz.func97, Tryz.ntmps97
    go_wp2_with fail
    go_ret
    exact ⟨rfl, rfl⟩
  · by_cases h2 : 1099511627776 < n
    · skip
      have hp : decide (inNum n) = false := decide_eq_false (by unfold inNum; omega)
      rw [hp]
      go_enter Tryz.func97, Tryz.ntmps97
      go_wp2_with fail
      go_ret
      exact ⟨rfl, rfl⟩
    · have d1 : decide (n < 0) = false := decide_eq_false h1
      have d2 : decide (1099511627776 < n) = false := decide_eq_false h2
      have hp : decide (inNum n) = true := decide_eq_true (by unfold inNum; omega)
      rw [hp]
      go_enter Tryz.func97, Tryz.ntmps97
      go_wp2_with fail
      go_ret
      exact ⟨rfl, rfl⟩

set_option maxHeartbeats 1000000 in
theorem bindexInt_any (b cap : Nat) (xs : List Int) (w : World) (hl : xs.length ≤ 1000) (hc : ∀ j x, xs[j]? = some x → w.cell? ⟨b, j, none⟩ = some (.int .i64 x)) :
    Calls Tryz.prog 120 #[.slice (some ⟨b, 0, none⟩) xs.length cap, .func (.func 97) #[] #[]] w
      fun e w' => (∃ r : Int, e = .returned (.int .i64 r) ∧ (r < 0 ↔ ∀ x ∈ xs, inNum x) ∧ -1 ≤ r) ∧ w = w' := by
  have HC := hid hc
  clear hc
  go_enter Tryz.func120, Tryz.ntmps120
  go_wp2_with fail
  go_loopw [8] (fun c wr => ∃ k : Nat, k ≤ xs.length ∧ c = .int .i64 k ∧ wr = w ∧ ∀ x ∈ xs.take k, inNum x) (fun c _ => xs.length - (intOf c).toNat)
  case atStart => exact ⟨0, by omega, rfl, rfl, by simp⟩
  case round =>
    obtain ⟨k, hk, rfl, rfl, hall⟩ := hrel
    have HALL := hid hall
    clear hall
    by_cases hlt : k < xs.length
    · have hx := HC.out k xs[k] (List.getElem?_eq_getElem hlt)
      have htk : xs.take (k + 1) = xs.take k ++ [xs[k]] := by rw [List.take_succ_eq_append_getElem hlt]
      have HTK := hid htk
      have HMEM := hid (List.getElem_mem hlt)
      clear htk
      generalize xs[k] = x at hx HTK HMEM
      have hk0 : (0 : Int) ≤ (k : Int) := by omega
      have hk1 : (k : Int) < (xs.length : Int) := by omega
      go_wp2_with fail
      refine (bwithin1_any x _).mono ?_
      rintro e w' ⟨rfl, rfl⟩
      by_cases hn : inNum x
      · have hp : decide (inNum x) = true := decide_eq_true hn
        rw [hp]
        go_wp2_with fail
        go_roundw
        case rel =>
          refine ⟨k + 1, by omega, by go_num, trivial, fun y hy => ?_⟩
          rw [HTK.out] at hy
          rcases List.mem_append.1 hy with hy | hy
          · exact HALL.out y hy
          · simp only [List.mem_singleton] at hy; rw [hy]; exact hn
        case measure => simp [intOf]; omega
      · have hp : decide (inNum x) = false := decide_eq_false hn
        rw [hp]
        go_wp2_with fail
        go_ret
        exact ⟨⟨k, rfl, ⟨fun h => by omega, fun h => absurd (h x HMEM.out) hn⟩, by omega⟩, rfl⟩
    · obtain rfl : k = xs.length := by omega
      go_wp2_with fail
      go_ret
      refine ⟨⟨-1, rfl, ⟨fun _ x hx => HALL.out x (by rw [List.take_length]; exact hx), fun _ => by omega⟩, by omega⟩, rfl⟩

set_option maxHeartbeats 1000000 in
theorem bwithin_any (b cap : Nat) (xs : List Int) (w : World) (hl : xs.length ≤ 1000) (hc : ∀ j x, xs[j]? = some x → w.cell? ⟨b, j, none⟩ = some (.int .i64 x)) :
    Calls Tryz.prog 60 #[.slice (some ⟨b, 0, none⟩) xs.length cap] w fun e w' => e = .returned (.bool (decide (∀ x ∈ xs, inNum x))) ∧ w = w' := by
  have hcf : Calls Tryz.prog 96 #[.slice (some ⟨b, 0, none⟩) xs.length cap, .func (.func 97) #[] #[]] w fun e w' => e = .returned (.bool (!decide (∀ x ∈ xs, inNum x))) ∧ w = w' := by
    go_enter Tryz.func96, Tryz.ntmps96
    go_wp2_with fail
    refine (bindexInt_any b cap xs w hl hc).mono ?_
    rintro e w' ⟨⟨r, rfl, hr, hr2⟩, rfl⟩
    by_cases h : ∀ x ∈ xs, inNum x
    · have h1 := hr.2 h
      have hd : decide (0 ≤ r) = false := decide_eq_false (by omega)
      have HP := hid (decide_eq_true h)
      clear hr h
      go_wp2_with fail
      go_ret
      exact ⟨by rw [HP.out]; rfl, rfl⟩
    · have h1 : ¬ r < 0 := fun h9 => h (hr.1 h9)
      have hd : decide (0 ≤ r) = true := decide_eq_true (by omega)
      have HP := hid (decide_eq_false h)
      clear hr h
      go_wp2_with fail
      go_ret
      exact ⟨by rw [HP.out]; rfl, rfl⟩
  clear hc
  go_enter Tryz.func60, Tryz.ntmps60
  go_wp2_with fail
  refine hcf.mono ?_
  rintro e w' ⟨rfl, rfl⟩
  clear hcf
  obtain ⟨p, HP⟩ : ∃ p, Hid (decide (∀ x ∈ xs, inNum x) = p) := ⟨_, hid rfl⟩
  rw [HP.out]
  cases p
  all_goals
    go_wp2_with fail
    go_ret
    exact ⟨by rw [HP.out]; rfl, rfl⟩

/-- Two numbers, in a block of their own. -/
theorem bwithin_two {W : World} {B : Nat} {a b : Int} (hB : Blk W B #[.int .i64 a, .int .i64 b] 3) : Calls Tryz.prog 60 #[.slice (some ⟨B, 0, none⟩) 2 2] W fun e w' => e = .returned (.bool (decide (inNum a ∧ inNum b))) ∧ W = w' := by
  have h := bwithin_any B 2 [a, b] W (by simp) (by
    intro j x hx
    have h9 : j < 2 := (List.getElem?_eq_some_iff.1 hx).1
    match j, h9 with
    | 0, _ => simp at hx; subst hx; exact hB.cell rfl
    | 1, _ => simp at hx; subst hx; exact hB.cell rfl)
  have e : decide (∀ x ∈ [a, b], inNum x) = decide (inNum a ∧ inNum b) := by simp
  rw [e] at h
  exact h

theorem bwithin_three {W : World} {B : Nat} {a b c : Int} (hB : Blk W B #[.int .i64 a, .int .i64 b, .int .i64 c] 3) : Calls Tryz.prog 60 #[.slice (some ⟨B, 0, none⟩) 3 3] W fun e w' => e = .returned (.bool (decide (inNum a ∧ inNum b ∧ inNum c))) ∧ W = w' := by
  have h := bwithin_any B 3 [a, b, c] W (by simp) (by
    intro j x hx
    have h9 : j < 3 := (List.getElem?_eq_some_iff.1 hx).1
    match j, h9 with
    | 0, _ => simp at hx; subst hx; exact hB.cell rfl
    | 1, _ => simp at hx; subst hx; exact hB.cell rfl
    | 2, _ => simp at hx; subst hx; exact hB.cell rfl)
  have e : decide (∀ x ∈ [a, b, c], inNum x) = decide (inNum a ∧ inNum b ∧ inNum c) := by simp
  rw [e] at h
  exact h

set_option maxHeartbeats 1000000 in
theorem may_any (r : PRec) (w : World) (hl : r.text.length ≤ 1000000) : Calls Tryz.prog 61 #[r.val] w fun e w' => e = .returned (.bool (decide r.ok)) ∧ Below w.heap.size w w' := by
  obtain ⟨q, hq⟩ : ∃ q, decide r.ok = q := ⟨_, rfl⟩
  rw [hq]
  have HQ := hid hq
  clear hq
  obtain ⟨k, t, x⟩ := r
  unfold PRec.val
  dsimp only at hl ⊢
  have hb1 : Below w.heap.size w (w.alloc (.cells #[.int .i64 k, .int .i64 t, .string (bs x)] 36)) := bel_alloc (Below.refl _ _) _
  have hk1 := Blk.new w #[.int .i64 k, .int .i64 t, .string (bs x)] 36
  have HB2 := hid (bel_alloc hb1 (.cells #[.int .i64 k, .int .i64 t] 3))
  have HW2 := hid (bwithin_two (Blk.new (w.alloc (.cells #[.int .i64 k, .int .i64 t, .string (bs x)] 36)) #[.int .i64 k, .int .i64 t] 3))
  have hsz : (bs x).size = x.length := rfl
  have hsq : (w.alloc (.cells #[.int .i64 k, .int .i64 t, .string (bs x)] 36)).heap.size = w.heap.size + 1 := by simp
  rw [hsq] at HW2
  clear hb1 hk1 hsq
  by_cases h1 : inNum k ∧ inNum t
  · rw [decide_eq_true h1] at HW2
    by_cases h2 : k ≤ 1048576
    · have d2 : decide (k ≤ 1048576) = true := decide_eq_true h2
      by_cases h3 : (x.length : Int) ≤ 512
      · have d3 : decide ((x.length : Int) ≤ 512) = true := decide_eq_true h3
        obtain rfl : true = q := by rw [← HQ.out]; exact (decide_eq_true ⟨h1, h2, by show x.length ≤ 512; omega⟩).symm
        clear h1 h2 h3
        go_enter Tryz.func61, Tryz.ntmps61
        go_wp2_with fail
        refine HW2.out.mono ?_
        rintro e w' ⟨rfl, rfl⟩
        go_wp2_with fail
        go_ret
        exact ⟨rfl, HB2.out⟩
      · have d3 : decide ((x.length : Int) ≤ 512) = false := decide_eq_false h3
        obtain rfl : false = q := by rw [← HQ.out]; exact (decide_eq_false (fun h => h3 (by have : x.length ≤ 512 := h.2.2; omega))).symm
        clear h1 h2 h3
        go_enter Tryz.func61, Tryz.ntmps61
        go_wp2_with fail
        refine HW2.out.mono ?_
        rintro e w' ⟨rfl, rfl⟩
        go_wp2_with fail
        go_ret
        exact ⟨rfl, HB2.out⟩
    · have d2 : decide (k ≤ 1048576) = false := decide_eq_false h2
      obtain rfl : false = q := by rw [← HQ.out]; exact (decide_eq_false (fun h => h2 h.2.1)).symm
      clear h1 h2
      go_enter Tryz.func61, Tryz.ntmps61
      go_wp2_with fail
      refine HW2.out.mono ?_
      rintro e w' ⟨rfl, rfl⟩
      go_wp2_with fail
      go_ret
      exact ⟨rfl, HB2.out⟩
  · rw [decide_eq_false h1] at HW2
    obtain rfl : false = q := by rw [← HQ.out]; exact (decide_eq_false (fun h => h1 h.1)).symm
    clear h1
    go_enter Tryz.func61, Tryz.ntmps61
    go_wp2_with fail
    refine HW2.out.mono ?_
    rintro e w' ⟨rfl, rfl⟩
    go_wp2_with fail
    go_ret
    exact ⟨rfl, HB2.out⟩

set_option maxHeartbeats 1000000 in
theorem bLen_any (b : PBat) (ad : Option Addr) (cap : Nat) (w : World) : Calls Tryz.prog 47 #[b.val (.slice ad b.l.length cap)] w fun e w' => e = .returned (.int .i64 b.len) ∧ Below w.heap.size w w' := by
  have HB := hid (bel_alloc (Below.refl w.heap.size w) (.cells #[.int .i64 b.kind, .int .i64 b.pid, .int .i64 b.epoch, .int .i64 b.seq, .slice ad b.l.length cap] 31))
  unfold PBat.val PBat.len
  go_enter Tryz.func47, Tryz.ntmps47
  go_wp2_with fail
  go_ret
  exact ⟨rfl, HB.out⟩
end Go.Proofs.YtgjkjkeeblbjlaaGreatDoor

namespace Go.Proofs.YtgjkjkeeblbjlaaGreatDoor
open Go.RowKit

/-- What Check tells. -/
def PBat.code (b : PBat) : Int := if b.ok then 0 else 1

/-- The numbers may be, and so may the first records. -/
def okTo (b : PBat) (k : Nat) : Bool := decide b.nums && (b.l.take k).all fun r => decide r.ok

theorem okTo_next {b : PBat} {k : Nat} {x : PRec} (hx : b.l[k]? = some x) : okTo b (k + 1) = (okTo b k && decide x.ok) := by
  unfold okTo
  rw [List.take_add_one, hx, List.all_append, Bool.and_assoc]
  simp

theorem okTo_all {b : PBat} : okTo b b.l.length = true ↔ b.nums ∧ ∀ r ∈ b.l, r.ok := by
  unfold okTo
  rw [List.take_length, Bool.and_eq_true, List.all_eq_true]
  simp

def ChkRel (w : World) (kind pid epoch seq : Int) (l : List PRec) (K : Value) (j v : Value) (wr : World) : Prop :=
  ∃ k : Nat, k ≤ l.length ∧ j = .int .i64 k ∧ v = .bool (okTo (PBat.mk kind pid epoch seq l) k) ∧ Below w.heap.size w wr ∧ Blk wr w.heap.size #[.int .i64 kind, .int .i64 pid, .int .i64 epoch, .int .i64 seq, K] 31

set_option maxHeartbeats 8000000 in
theorem bCheck_any (b : PBat) (K : Value) (w : World) (h : InRecs w K b.l) (ht : ∀ r ∈ b.l, r.text.length ≤ 1000000) (hn : b.l.length ≤ 1000000) :
    Calls Tryz.prog 40 #[b.val K] w fun e w' => e = .returned (.int .i64 b.code) ∧ Below w.heap.size w w' := by
  obtain ⟨ad, cap, rfl, hcap, hmax⟩ := h.form
  obtain ⟨c, hc⟩ : ∃ c, b.code = c := ⟨_, rfl⟩
  rw [hc]
  have HC := hid hc
  clear hc
  obtain ⟨kind, pid, epoch, seq, l⟩ := b
  have HYES : Hid ((PBat.mk kind pid epoch seq l).nums ∧ (∀ r ∈ l, r.ok) → (PBat.mk kind pid epoch seq l).fits → c = 0) := hid (fun h1 h2 => by rw [← HC.out]; exact if_pos ⟨h1.1, h1.2, h2⟩)
  have HNO : Hid (¬ ((PBat.mk kind pid epoch seq l).nums ∧ ∀ r ∈ l, r.ok) → c = 1) := hid (fun h1 => by rw [← HC.out]; exact if_neg (fun h9 => h1 ⟨h9.1, h9.2.1⟩))
  have HNO2 : Hid (¬ (PBat.mk kind pid epoch seq l).fits → c = 1) := hid (fun h1 => by rw [← HC.out]; exact if_neg (fun h9 => h1 h9.2.2))
  unfold PBat.val
  dsimp only at h ht hn hcap ⊢
  have hb1 : Below w.heap.size w (w.alloc (.cells #[.int .i64 kind, .int .i64 pid, .int .i64 epoch, .int .i64 seq, .slice ad l.length cap] 31)) := bel_alloc (Below.refl _ _) _
  have hk1 := Blk.new w #[.int .i64 kind, .int .i64 pid, .int .i64 epoch, .int .i64 seq, .slice ad l.length cap] 31
  have HW := hid (bwithin_three (Blk.new (w.alloc (.cells #[.int .i64 kind, .int .i64 pid, .int .i64 epoch, .int .i64 seq, .slice ad l.length cap] 31)) #[.int .i64 pid, .int .i64 epoch, .int .i64 seq] 3))
  have HB2 := hid (bel_alloc hb1 (.cells #[.int .i64 pid, .int .i64 epoch, .int .i64 seq] 3))
  have HK2 := hid (hk1.alloc (.cells #[.int .i64 pid, .int .i64 epoch, .int .i64 seq] 3))
  have hsq : (w.alloc (.cells #[.int .i64 kind, .int .i64 pid, .int .i64 epoch, .int .i64 seq, .slice ad l.length cap] 31)).heap.size = w.heap.size + 1 := by simp
  rw [hsq] at HW
  have HI := hid h
  have HTX := hid ht
  clear h ht hb1 hk1 HC hcap hsq
  go_enter Tryz.func40, Tryz.ntmps40
  go_upto_region 1 with fail
  go_cut [3] (fun v wx => v = .bool (decide (PBat.mk kind pid epoch seq l).nums) ∧ Below w.heap.size w wx ∧ Blk wx w.heap.size #[.int .i64 kind, .int .i64 pid, .int .i64 epoch, .int .i64 seq, .slice ad l.length cap] 31)
  case first =>
    obtain ⟨q, hq⟩ : ∃ q, decide (PBat.mk kind pid epoch seq l).nums = q := ⟨_, rfl⟩
    have HQ := hid hq
    clear hq
    have HB3 := hid HB2.out
    have HK3 := hid HK2.out
    have x4 := HK3.out.cell (i := 4) (v := .slice ad l.length cap) rfl
    have x1 := HK3.out.cell (i := 1) (v := .int .i64 pid) rfl
    by_cases h1 : inNum pid ∧ inNum epoch ∧ inNum seq
    · rw [decide_eq_true h1] at HW
      by_cases h2 : pid ≤ 8
      · have d2 : decide (pid ≤ 8) = true := decide_eq_true h2
        by_cases h3 : (l.length : Int) ≤ 64
        · have d3 : decide ((l.length : Int) ≤ 64) = true := decide_eq_true h3
          obtain rfl : true = q := by rw [← HQ.out]; exact (decide_eq_true ⟨h1, h2, by show l.length ≤ 64; omega⟩).symm
          clear h1 h2 h3
          go_wp2_with fail
          refine HW.out.mono ?_
          rintro e w' ⟨rfl, rfl⟩
          go_wp2_with fail
          go_meet
          exact ⟨by rw [HQ.out], HB3.out, HK3.out⟩
        · have d3 : decide ((l.length : Int) ≤ 64) = false := decide_eq_false h3
          obtain rfl : false = q := by rw [← HQ.out]; exact (decide_eq_false (fun h => h3 (by have : l.length ≤ 64 := h.2.2; omega))).symm
          clear h1 h2 h3
          go_wp2_with fail
          refine HW.out.mono ?_
          rintro e w' ⟨rfl, rfl⟩
          go_wp2_with fail
          go_meet
          exact ⟨by rw [HQ.out], HB3.out, HK3.out⟩
      · have d2 : decide (pid ≤ 8) = false := decide_eq_false h2
        obtain rfl : false = q := by rw [← HQ.out]; exact (decide_eq_false (fun h => h2 h.2.1)).symm
        clear h1 h2
        go_wp2_with fail
        refine HW.out.mono ?_
        rintro e w' ⟨rfl, rfl⟩
        go_wp2_with fail
        go_meet
        exact ⟨by rw [HQ.out], HB3.out, HK3.out⟩
    · rw [decide_eq_false h1] at HW
      obtain rfl : false = q := by rw [← HQ.out]; exact (decide_eq_false (fun h => h1 h.1)).symm
      clear h1
      go_wp2_with fail
      refine HW.out.mono ?_
      rintro e w' ⟨rfl, rfl⟩
      go_wp2_with fail
      go_meet
      exact ⟨by rw [HQ.out], HB3.out, HK3.out⟩
  case rest =>
    obtain ⟨rfl, hb, hk⟩ := hcut
    have HB := hid hb
    have HK := hid hk
    have x4 := hk.cell (i := 4) (v := .slice ad l.length cap) rfl
    clear hb hk HW HB2 HK2
    go_wp2_with fail
    go_loopw [30, 3] (fun j v wr => ChkRel w kind pid epoch seq l (.slice ad l.length cap) j v wr) (fun j _ _ => l.length - (intOf j).toNat)
    case atStart => exact ⟨0, Nat.zero_le _, rfl, by simp [okTo], HB.out, HK.out⟩
    case round =>
      clear HB HK x4
      obtain ⟨k, hk, rfl, rfl, hb, hbk⟩ := hrel
      have HB := hid hb
      have HK := hid hbk
      clear hb hbk
      by_cases hlt : k < l.length
      · obtain ⟨x, hx⟩ : ∃ x, l[k]? = some x := ⟨_, List.getElem?_eq_getElem hlt⟩
        obtain ⟨a, rfl, a0, a1, a2⟩ := (HI.out.below HB.out).at hx
        have hnx := okTo_next (b := PBat.mk kind pid epoch seq l) (k := k) (x := x) hx
        have HNX := hid hnx
        have HMAY := hid (fun W => may_any x W (HTX.out x (List.mem_of_getElem? hx)))
        clear hx hnx
        have hq0 : (0 : Int) ≤ (k : Int) := by omega
        have hq1 : (k : Int) < (l.length : Int) := by omega
        have HB5 := hid (bel_alloc HB.out (.cells #[.int .i64 x.key, .int .i64 x.time, .string (bs x.text)] 36))
        have HK5 := hid (HK.out.alloc (.cells #[.int .i64 x.key, .int .i64 x.time, .string (bs x.text)] 36))
        unfold PRec.val at HMAY
        obtain ⟨q, hq⟩ : ∃ q, okTo (PBat.mk kind pid epoch seq l) k = q := ⟨_, rfl⟩
        rw [hq]
        have HQ := hid hq
        clear hq HB HK
        cases q with
        | true =>
          have HQ2 : Hid (okTo (PBat.mk kind pid epoch seq l) (k + 1) = decide x.ok) := hid (by rw [HNX.out, HQ.out, Bool.true_and])
          go_wp2_with fail
          refine (HMAY.out _).mono ?_
          rintro e w6 ⟨rfl, hb6⟩
          have HB6 := hid (bel_next HB5.out hb6)
          have HK6 := hid (HK5.out.below' hb6)
          clear hb6 HB5 HK5
          generalize decide x.ok = y at HQ2 ⊢
          go_wp2_with fail
          go_roundw
          case rel => exact ⟨k + 1, by omega, by go_num, by rw [HQ2.out], HB6.out, HK6.out⟩
          case measure => simp [intOf]; omega
        | false =>
          have HQ2 : Hid (okTo (PBat.mk kind pid epoch seq l) (k + 1) = false) := hid (by rw [HNX.out, HQ.out, Bool.false_and])
          go_wp2_with fail
          go_roundw
          case rel => exact ⟨k + 1, by omega, by go_num, by rw [HQ2.out], HB5.out, HK5.out⟩
          case measure => simp [intOf]; omega
      · obtain rfl : k = l.length := by omega
        obtain ⟨q, hq⟩ : ∃ q, okTo (PBat.mk kind pid epoch seq l) l.length = q := ⟨_, rfl⟩
        rw [hq]
        have HQ : Hid ((q = true → (PBat.mk kind pid epoch seq l).nums ∧ ∀ r ∈ l, r.ok) ∧ (q = false → ¬ ((PBat.mk kind pid epoch seq l).nums ∧ ∀ r ∈ l, r.ok))) := hid ⟨fun h => okTo_all.1 (hq.trans h), fun h h9 => by
          have h8 := (okTo_all (b := PBat.mk kind pid epoch seq l)).2 h9
          have h7 : okTo (PBat.mk kind pid epoch seq l) l.length = false := hq.trans h
          rw [h7] at h8
          cases h8⟩
        clear hq hlt hk HI HTX
        have x0 := HK.out.cell (i := 0) (v := .int .i64 kind) rfl
        have x1 := HK.out.cell (i := 1) (v := .int .i64 pid) rfl
        have x2 := HK.out.cell (i := 2) (v := .int .i64 epoch) rfl
        have x3 := HK.out.cell (i := 3) (v := .int .i64 seq) rfl
        have x4 := HK.out.cell (i := 4) (v := .slice ad l.length cap) rfl
        have HL : Hid (∀ {P : Prop}, (l = [] → P) → (l.length = 0 → P)) := hid (fun f h => f (List.length_eq_zero_iff.1 h))
        go_upto_region 7 with fail
        go_cut [6] (fun v wx => v = .bool (decide (PBat.mk kind pid epoch seq l).nobody) ∧ wx = wr)
        case first =>
          by_cases h1 : pid = 0
          · have d1 : decide (pid = 0) = true := decide_eq_true h1
            have e1 : (pid == 0) = true := by simpa using h1
            by_cases h2 : epoch = 0
            · have d2 : decide (epoch = 0) = true := decide_eq_true h2
              have e2 : (epoch == 0) = true := by simpa using h2
              by_cases h3 : seq = 0
              · have d3 : decide (seq = 0) = true := decide_eq_true h3
                have e3 : (seq == 0) = true := by simpa using h3
                have HD : Hid (decide (PBat.mk kind pid epoch seq l).nobody = true) := hid (decide_eq_true ⟨h1, h2, h3⟩)
                clear h1 h2 h3
                go_wp2_with fail
                go_meet
                exact ⟨by rw [HD.out], by trivial⟩
              · have d3 : decide (seq = 0) = false := decide_eq_false h3
                have e3 : (seq == 0) = false := by simpa using h3
                have HD : Hid (decide (PBat.mk kind pid epoch seq l).nobody = false) := hid (decide_eq_false (fun h => h3 h.2.2))
                clear h1 h2 h3
                go_wp2_with fail
                go_meet
                exact ⟨by rw [HD.out], by trivial⟩
            · have d2 : decide (epoch = 0) = false := decide_eq_false h2
              have e2 : (epoch == 0) = false := by simpa using h2
              have HD : Hid (decide (PBat.mk kind pid epoch seq l).nobody = false) := hid (decide_eq_false (fun h => h2 h.2.1))
              clear h1 h2
              go_wp2_with fail
              go_meet
              exact ⟨by rw [HD.out], by trivial⟩
          · have d1 : decide (pid = 0) = false := decide_eq_false h1
            have e1 : (pid == 0) = false := by simpa using h1
            have HD : Hid (decide (PBat.mk kind pid epoch seq l).nobody = false) := hid (decide_eq_false (fun h => h1 h.1))
            clear h1
            go_wp2_with fail
            go_meet
            exact ⟨by rw [HD.out], by trivial⟩
        case rest =>
          obtain ⟨hv, hw⟩ := hcut
          subst hv
          subst hw
          obtain ⟨nb, hnb⟩ : ∃ nb, decide (PBat.mk kind pid epoch seq l).nobody = nb := ⟨_, rfl⟩
          rw [hnb]
          have HNB := hid hnb
          clear hnb
          go_upto_region 8 with fail
          go_cut [7] (fun v wx => v = .bool (decide (PBat.mk kind pid epoch seq l).somebody) ∧ wx = wc)
          case first =>
            by_cases h1 : 0 < pid
            · have d1 : decide (0 < pid) = true := decide_eq_true h1
              by_cases h2 : 0 < epoch
              · have d2 : decide (0 < epoch) = true := decide_eq_true h2
                have HD : Hid (decide (PBat.mk kind pid epoch seq l).somebody = true) := hid (decide_eq_true ⟨h1, h2⟩)
                clear h1 h2
                go_wp2_with fail
                go_meet
                exact ⟨by rw [HD.out], by trivial⟩
              · have d2 : decide (0 < epoch) = false := decide_eq_false h2
                have HD : Hid (decide (PBat.mk kind pid epoch seq l).somebody = false) := hid (decide_eq_false (fun h => h2 h.2))
                clear h1 h2
                go_wp2_with fail
                go_meet
                exact ⟨by rw [HD.out], by trivial⟩
            · have d1 : decide (0 < pid) = false := decide_eq_false h1
              have HD : Hid (decide (PBat.mk kind pid epoch seq l).somebody = false) := hid (decide_eq_false (fun h => h1 h.1))
              clear h1
              go_wp2_with fail
              go_meet
              exact ⟨by rw [HD.out], by trivial⟩
          case rest =>
            obtain ⟨hv, hw⟩ := hcut
            subst hv
            subst hw
            obtain ⟨sb, hsb⟩ : ∃ sb, decide (PBat.mk kind pid epoch seq l).somebody = sb := ⟨_, rfl⟩
            rw [hsb]
            have HSB := hid hsb
            clear hsb
            obtain ⟨n, hnn⟩ : ∃ n, l.length = n := ⟨_, rfl⟩
            have HN : Hid ((n = 0 → l = []) ∧ (n ≠ 0 → l ≠ [])) := hid ⟨fun h => List.length_eq_zero_iff.1 (hnn.trans h), fun h h9 => h (by rw [← hnn, h9]; rfl)⟩
            rw [hnn] at x4
            have HNN := hid hnn
            clear hnn
            have hkk : kind = 1 ∨ kind = 2 ∨ kind = 3 ∨ kind = 4 ∨ (kind ≠ 1 ∧ kind ≠ 2 ∧ kind ≠ 3 ∧ kind ≠ 4) := by omega
            cases q with
            | false =>
              obtain rfl : c = 1 := HNO.out (HQ.out.2 rfl)
              clear HYES HNO HNO2
              rcases hkk with rfl | rfl | rfl | rfl | ⟨g1, g2, g3, g4⟩
              · go_wp2_with fail
                go_ret
                exact ⟨rfl, HB.out⟩
              · go_wp2_with fail
                go_ret
                exact ⟨rfl, HB.out⟩
              · go_wp2_with fail
                go_ret
                exact ⟨rfl, HB.out⟩
              · go_wp2_with fail
                go_ret
                exact ⟨rfl, HB.out⟩
              · skip
                have u1 : decide (kind = 1) = false := decide_eq_false g1
                have v1 : (kind == 1) = false := by simpa using g1
                have u2 : decide (kind = 2) = false := decide_eq_false g2
                have v2 : (kind == 2) = false := by simpa using g2
                have u3 : decide (kind = 3) = false := decide_eq_false g3
                have v3 : (kind == 3) = false := by simpa using g3
                have u4 : decide (kind = 4) = false := decide_eq_false g4
                have v4 : (kind == 4) = false := by simpa using g4
                clear g1 g2 g3 g4
                go_wp2_with fail
                go_ret
                exact ⟨rfl, HB.out⟩
            | true =>
              rcases hkk with rfl | rfl | rfl | rfl | ⟨g1, g2, g3, g4⟩
              · skip
                by_cases hz : n = 0
                · subst hz
                  obtain rfl : c = 1 := HNO2.out (fun h9 => by rcases h9 with ⟨_, h8, _⟩ | ⟨h8, _⟩ | ⟨h8, _⟩; exact h8 (HN.out.1 rfl); exact absurd h8 (show ¬ ((1 : Int) = 2) by decide); exact absurd h8 (show ¬ ((1 : Int) = 3 ∨ (1 : Int) = 4) by decide))
                  clear HYES HNO HNO2
                  go_wp2_with fail
                  go_ret
                  exact ⟨rfl, HB.out⟩
                · have w1 : decide ((0 : Int) < (n : Int)) = true := decide_eq_true (by omega)
                  have w2 : decide ((n : Int) = 0) = false := decide_eq_false (by omega)
                  have w3 : ((n : Int) == 0) = false := by simp; omega
                  have w4 : decide (0 < n) = true := decide_eq_true (by omega)
                  have w5 : decide (n = 0) = false := decide_eq_false hz
                  have w6 : (n == 0) = false := by simpa using hz
                  have HNE := hid (HN.out.2 hz)
                  clear hz
                  cases nb with
                  | true =>
                    obtain rfl : c = 0 := HYES.out (HQ.out.1 rfl) (.inl ⟨rfl, HNE.out, .inl (of_decide_eq_true HNB.out)⟩)
                    clear HYES HNO HNO2
                    go_wp2_with fail
                    go_ret
                    exact ⟨rfl, HB.out⟩
                  | false =>
                    cases sb with
                    | true =>
                      obtain rfl : c = 0 := HYES.out (HQ.out.1 rfl) (.inl ⟨rfl, HNE.out, .inr (of_decide_eq_true HSB.out)⟩)
                      clear HYES HNO HNO2
                      go_wp2_with fail
                      go_ret
                      exact ⟨rfl, HB.out⟩
                    | false =>
                      obtain rfl : c = 1 := HNO2.out (fun h9 => by rcases h9 with ⟨_, _, h8⟩ | ⟨h8, _⟩ | ⟨h8, _⟩; exact h8.elim (of_decide_eq_false HNB.out) (of_decide_eq_false HSB.out); exact absurd h8 (show ¬ ((1 : Int) = 2) by decide); exact absurd h8 (show ¬ ((1 : Int) = 3 ∨ (1 : Int) = 4) by decide))
                      clear HYES HNO HNO2
                      go_wp2_with fail
                      go_ret
                      exact ⟨rfl, HB.out⟩
              · skip
                by_cases hz : n = 0
                · subst hz
                  obtain rfl : c = 1 := HNO2.out (fun h9 => by rcases h9 with ⟨h8, _⟩ | ⟨_, h8, _⟩ | ⟨h8, _⟩; exact absurd h8 (show ¬ ((2 : Int) = 1) by decide); exact h8 (HN.out.1 rfl); exact absurd h8 (show ¬ ((2 : Int) = 3 ∨ (2 : Int) = 4) by decide))
                  clear HYES HNO HNO2
                  go_wp2_with fail
                  go_ret
                  exact ⟨rfl, HB.out⟩
                · have w1 : decide ((0 : Int) < (n : Int)) = true := decide_eq_true (by omega)
                  have w2 : decide ((n : Int) = 0) = false := decide_eq_false (by omega)
                  have w3 : ((n : Int) == 0) = false := by simp; omega
                  have w4 : decide (0 < n) = true := decide_eq_true (by omega)
                  have w5 : decide (n = 0) = false := decide_eq_false hz
                  have w6 : (n == 0) = false := by simpa using hz
                  have HNE := hid (HN.out.2 hz)
                  clear hz
                  cases sb with
                  | true =>
                    obtain rfl : c = 0 := HYES.out (HQ.out.1 rfl) (.inr (.inl ⟨rfl, HNE.out, of_decide_eq_true HSB.out⟩))
                    clear HYES HNO HNO2
                    go_wp2_with fail
                    go_ret
                    exact ⟨rfl, HB.out⟩
                  | false =>
                    obtain rfl : c = 1 := HNO2.out (fun h9 => by rcases h9 with ⟨h8, _⟩ | ⟨_, _, h8⟩ | ⟨h8, _⟩; exact absurd h8 (show ¬ ((2 : Int) = 1) by decide); exact of_decide_eq_false HSB.out h8; exact absurd h8 (show ¬ ((2 : Int) = 3 ∨ (2 : Int) = 4) by decide))
                    clear HYES HNO HNO2
                    go_wp2_with fail
                    go_ret
                    exact ⟨rfl, HB.out⟩
              · skip
                by_cases hz : n = 0
                · subst hz
                  cases sb with
                  | true =>
                    by_cases hs : seq = 0
                    · have s1 : decide (seq = 0) = true := decide_eq_true hs
                      have s2 : (seq == 0) = true := by simpa using hs
                      have HS := hid hs
                      clear hs
                      obtain rfl : c = 0 := HYES.out (HQ.out.1 rfl) (.inr (.inr ⟨.inl rfl, HN.out.1 rfl, of_decide_eq_true HSB.out, HS.out⟩))
                      clear HYES HNO HNO2
                      go_wp2_with fail
                      go_ret
                      exact ⟨rfl, HB.out⟩
                    · have s1 : decide (seq = 0) = false := decide_eq_false hs
                      have s2 : (seq == 0) = false := by simpa using hs
                      have HS := hid hs
                      clear hs
                      obtain rfl : c = 1 := HNO2.out (fun h9 => by rcases h9 with ⟨h8, _⟩ | ⟨h8, _⟩ | ⟨_, _, _, h8⟩; exact absurd h8 (show ¬ ((3 : Int) = 1) by decide); exact absurd h8 (show ¬ ((3 : Int) = 2) by decide); exact HS.out h8)
                      clear HYES HNO HNO2
                      go_wp2_with fail
                      go_ret
                      exact ⟨rfl, HB.out⟩
                  | false =>
                    obtain rfl : c = 1 := HNO2.out (fun h9 => by rcases h9 with ⟨h8, _⟩ | ⟨h8, _⟩ | ⟨_, _, h8, _⟩; exact absurd h8 (show ¬ ((3 : Int) = 1) by decide); exact absurd h8 (show ¬ ((3 : Int) = 2) by decide); exact of_decide_eq_false HSB.out h8)
                    clear HYES HNO HNO2
                    go_wp2_with fail
                    go_ret
                    exact ⟨rfl, HB.out⟩
                · have w1 : decide ((0 : Int) < (n : Int)) = true := decide_eq_true (by omega)
                  have w2 : decide ((n : Int) = 0) = false := decide_eq_false (by omega)
                  have w3 : ((n : Int) == 0) = false := by simp; omega
                  have w4 : decide (0 < n) = true := decide_eq_true (by omega)
                  have w5 : decide (n = 0) = false := decide_eq_false hz
                  have w6 : (n == 0) = false := by simpa using hz
                  have HNE := hid (HN.out.2 hz)
                  clear hz
                  obtain rfl : c = 1 := HNO2.out (fun h9 => by rcases h9 with ⟨h8, _⟩ | ⟨h8, _⟩ | ⟨_, h8, _⟩; exact absurd h8 (show ¬ ((3 : Int) = 1) by decide); exact absurd h8 (show ¬ ((3 : Int) = 2) by decide); exact HNE.out h8)
                  clear HYES HNO HNO2
                  go_wp2_with fail
                  go_ret
                  exact ⟨rfl, HB.out⟩
              · skip
                by_cases hz : n = 0
                · subst hz
                  cases sb with
                  | true =>
                    by_cases hs : seq = 0
                    · have s1 : decide (seq = 0) = true := decide_eq_true hs
                      have s2 : (seq == 0) = true := by simpa using hs
                      have HS := hid hs
                      clear hs
                      obtain rfl : c = 0 := HYES.out (HQ.out.1 rfl) (.inr (.inr ⟨.inr rfl, HN.out.1 rfl, of_decide_eq_true HSB.out, HS.out⟩))
                      clear HYES HNO HNO2
                      go_wp2_with fail
                      go_ret
                      exact ⟨rfl, HB.out⟩
                    · have s1 : decide (seq = 0) = false := decide_eq_false hs
                      have s2 : (seq == 0) = false := by simpa using hs
                      have HS := hid hs
                      clear hs
                      obtain rfl : c = 1 := HNO2.out (fun h9 => by rcases h9 with ⟨h8, _⟩ | ⟨h8, _⟩ | ⟨_, _, _, h8⟩; exact absurd h8 (show ¬ ((4 : Int) = 1) by decide); exact absurd h8 (show ¬ ((4 : Int) = 2) by decide); exact HS.out h8)
                      clear HYES HNO HNO2
                      go_wp2_with fail
                      go_ret
                      exact ⟨rfl, HB.out⟩
                  | false =>
                    obtain rfl : c = 1 := HNO2.out (fun h9 => by rcases h9 with ⟨h8, _⟩ | ⟨h8, _⟩ | ⟨_, _, h8, _⟩; exact absurd h8 (show ¬ ((4 : Int) = 1) by decide); exact absurd h8 (show ¬ ((4 : Int) = 2) by decide); exact of_decide_eq_false HSB.out h8)
                    clear HYES HNO HNO2
                    go_wp2_with fail
                    go_ret
                    exact ⟨rfl, HB.out⟩
                · have w1 : decide ((0 : Int) < (n : Int)) = true := decide_eq_true (by omega)
                  have w2 : decide ((n : Int) = 0) = false := decide_eq_false (by omega)
                  have w3 : ((n : Int) == 0) = false := by simp; omega
                  have w4 : decide (0 < n) = true := decide_eq_true (by omega)
                  have w5 : decide (n = 0) = false := decide_eq_false hz
                  have w6 : (n == 0) = false := by simpa using hz
                  have HNE := hid (HN.out.2 hz)
                  clear hz
                  obtain rfl : c = 1 := HNO2.out (fun h9 => by rcases h9 with ⟨h8, _⟩ | ⟨h8, _⟩ | ⟨_, h8, _⟩; exact absurd h8 (show ¬ ((4 : Int) = 1) by decide); exact absurd h8 (show ¬ ((4 : Int) = 2) by decide); exact HNE.out h8)
                  clear HYES HNO HNO2
                  go_wp2_with fail
                  go_ret
                  exact ⟨rfl, HB.out⟩
              · skip
                obtain rfl : c = 1 := HNO2.out (fun h9 => by rcases h9 with ⟨h8, _⟩ | ⟨h8, _⟩ | ⟨h8, _⟩; exact g1 h8; exact g2 h8; exact h8.elim g3 g4)
                have u1 : decide (kind = 1) = false := decide_eq_false g1
                have v1 : (kind == 1) = false := by simpa using g1
                have u2 : decide (kind = 2) = false := decide_eq_false g2
                have v2 : (kind == 2) = false := by simpa using g2
                have u3 : decide (kind = 3) = false := decide_eq_false g3
                have v3 : (kind == 3) = false := by simpa using g3
                have u4 : decide (kind = 4) = false := decide_eq_false g4
                have v4 : (kind == 4) = false := by simpa using g4
                clear g1 g2 g3 g4 HYES HNO HNO2
                go_wp2_with fail
                go_ret
                exact ⟨rfl, HB.out⟩
end Go.Proofs.YtgjkjkeeblbjlaaGreatDoor

namespace Go.Proofs.YtgjkjkeeblbjlaaGreatDoor
open Go.RowKit

set_option maxHeartbeats 1000000 in
theorem putRec_any (r : PRec) (h : r.ok) (w : World) : Calls Tryz.prog 89 #[r.val] w fun e w' => e = .returned (.string (bs r.lay)) ∧ Below w.heap.size w w' := by
  have hlay : bs r.lay = bs (putAllL [r.key, r.time]) ++ bs (putTextL r.text) := by rw [bs_append]; rfl
  rw [hlay]
  clear hlay
  obtain ⟨⟨⟨h1, h2⟩, h3, h4⟩, _, h5⟩ := h
  obtain ⟨k, t, x⟩ := r
  unfold PRec.val
  dsimp only at h1 h2 h3 h4 h5 ⊢
  have hp : (putAllL [k, t]).length ≤ 20 := putAllL_len _ (by
    intro x hx
    simp at hx
    rcases hx with rfl | rfl <;> omega)
  have hq : (putTextL x).length ≤ 522 := by
    have h9 := putL_len (x.length : Int) (by omega) (by omega)
    unfold putTextL
    rw [List.length_append]; omega
  have hsum : (bs (putAllL [k, t])).size + (bs (putTextL x)).size ≤ 9223372036854775807 := by rw [bs_size, bs_size]; omega
  have hsum2 : ¬ 9223372036854775807 < (bs (putAllL [k, t])).size + (bs (putTextL x)).size := by omega
  have HPT : Hid (∀ W, Calls Tryz.prog 115 #[.string (bs x)] W fun e w' => e = .returned (.string (bs (putTextL x))) ∧ Below W.heap.size W w') := hid (fun W => by
    have h9 := putText_any (bs x) W (by rw [bs_size]; omega)
    rw [tl_bs] at h9
    exact h9)
  have HB1 := hid (bel_alloc (Below.refl w.heap.size w) (.cells #[.int .i64 k, .int .i64 t, .string (bs x)] 36))
  have hblk : Blk (w.alloc (.cells #[.int .i64 k, .int .i64 t, .string (bs x)] 36)) w.heap.size #[.int .i64 k, .int .i64 t, .string (bs x)] 36 := Blk.new _ _ _
  have c0 := hblk.cell (i := 0) (v := .int .i64 k) rfl
  have c1 := hblk.cell (i := 1) (v := .int .i64 t) rfl
  have c2 := hblk.cell (i := 2) (v := .string (bs x)) rfl
  have hlt := hblk.lt
  clear hblk
  go_enter Tryz.func89, Tryz.ntmps89
  go_wp2_with fail
  go_region_held3 (fun w' => w'.cell? ⟨w.heap.size, 0, none⟩ = some (.int .i64 k) ∧ w'.cell? ⟨w.heap.size, 1, none⟩ = some (.int .i64 t) ∧ w'.cell? ⟨w.heap.size, 2, none⟩ = some (.string (bs x))) (go_keep)
    ((first
      | (go_at_call 88; refine (putAll2 _ _ k t _ (by omega) (by omega) ?_ ?_).mono ?_; (go_simp); (go_simp); rintro e w2 ⟨rfl, hb2⟩; have d20 : w2.cell? ⟨w.heap.size, 0, none⟩ = some (.int .i64 k) := (hb2.cell (by (try simp); omega)).trans (by go_simp); have d21 : w2.cell? ⟨w.heap.size, 1, none⟩ = some (.int .i64 t) := (hb2.cell (by (try simp); omega)).trans (by go_simp); have d22 : w2.cell? ⟨w.heap.size, 2, none⟩ = some (.string (bs x)) := (hb2.cell (by (try simp); omega)).trans (by go_simp); have hz2 := hb2.size; (try simp at hz2))
      | (go_at_call 115; refine (HPT.out _).mono ?_; rintro e w3 ⟨rfl, hb3⟩; have d30 : w3.cell? ⟨w.heap.size, 0, none⟩ = some (.int .i64 k) := (hb3.cell (by (try simp); omega)).trans (by go_simp); have d31 : w3.cell? ⟨w.heap.size, 1, none⟩ = some (.int .i64 t) := (hb3.cell (by (try simp); omega)).trans (by go_simp); have d32 : w3.cell? ⟨w.heap.size, 2, none⟩ = some (.string (bs x)) := (hb3.cell (by (try simp); omega)).trans (by go_simp); have hz3 := hb3.size; (try simp at hz3))))
  go_wp2
  go_ret
  exact ⟨rfl, bel_next (bel_next (bel_alloc HB1.out _).drew hb2) hb3⟩

theorem blk_next (w : World) (o : Obj) (cs : Array Value) (T : TypeId) : Blk ((w.alloc o).alloc (.cells cs T)) (w.heap.size + 1) cs T := by
  have h := Blk.new (w.alloc o) cs T
  simpa using h

def EncRel (w : World) (b : PBat) (K : Value) (B : Nat) (c : Value) (wr : World) : Prop :=
  ∃ k : Nat, k ≤ b.l.length ∧ c = .int .i64 k ∧ Lib.IsBuilder 166 5 B B (Lib.byteCells (putAllL b.head ++ recsLay (b.l.take k))) wr ∧ Below w.heap.size w wr ∧ B ≤ wr.heap.size ∧
    Blk wr w.heap.size #[.int .i64 b.kind, .int .i64 b.pid, .int .i64 b.epoch, .int .i64 b.seq, K] 31

theorem byteCells_add (a : List UInt8) (s : List UInt8) : Lib.byteCells a ++ Lib.strCells (bs s) = Lib.byteCells (a ++ s) := by simp [Lib.byteCells, Lib.strCells, bs]

set_option maxHeartbeats 4000000 in
theorem bEncode_ok (b : PBat) (K : Value) (w : World) (h : InRecs w K b.l) (hb : b.ok) :
    Calls Tryz.prog 57 #[b.val K] w fun e w' => e = .returned (.tuple #[.string (bs b.lay), .int .i64 0]) ∧ Below w.heap.size w w' := by
  obtain ⟨ad, cap, rfl, hcap, hmax⟩ := h.form
  have hl64 : b.l.length ≤ 64 := hb.1.2.2
  have hcode : b.code = 0 := if_pos hb
  have HI := hid h
  have HOK := hid hb
  have HCK : Hid (∀ W, Below w.heap.size w W → Calls Tryz.prog 40 #[b.val (.slice ad b.l.length cap)] W fun e w' => e = .returned (.int .i64 0) ∧ Below W.heap.size W w') := hid (fun W hW => by
    have h9 := bCheck_any b _ W (HI.out.below hW) (fun r hr => by have := (HOK.out.2.1 r hr).2.2; omega) (by omega)
    rw [hcode] at h9
    exact h9)
  have HPUT : Hid (∀ W B, Blk W B #[.int .i64 b.kind, .int .i64 b.pid, .int .i64 b.epoch, .int .i64 b.seq, .int .i64 (b.l.length : Int)] 3 → Calls Tryz.prog 88 #[.slice (some ⟨B, 0, none⟩) 5 5] W fun e w' => e = .returned (.string (bs (putAllL b.head))) ∧ Below W.heap.size W w') := hid (fun W B hB =>
    putAll_any B 5 b.head W (by simp [PBat.head]) (fun x hx => by have := HOK.out.head_in x hx; omega) (by
      intro i hi9
      have h9 : i < 5 := hi9
      match i, h9 with
      | 0, _ => exact hB.cell rfl
      | 1, _ => exact hB.cell rfl
      | 2, _ => exact hB.cell rfl
      | 3, _ => exact hB.cell rfl
      | 4, _ => exact hB.cell rfl))
  have hphl := putAllL_len b.head (fun x hx => by have := HOK.out.head_in x hx; omega)
  have hhl : b.head.length = 5 := rfl
  have hb1 : Below w.heap.size w (w.alloc (.cells #[.int .i64 b.kind, .int .i64 b.pid, .int .i64 b.epoch, .int .i64 b.seq, .slice ad b.l.length cap] 31)) := bel_alloc (Below.refl _ _) _
  have hk1 := Blk.new w #[.int .i64 b.kind, .int .i64 b.pid, .int .i64 b.epoch, .int .i64 b.seq, .slice ad b.l.length cap] 31
  have HB1 := hid hb1
  have HK1 := hid hk1
  clear h hb hb1 hk1 hcode hcap
  unfold PBat.val at HCK ⊢
  go_enter Tryz.func57, Tryz.ntmps57
  go_wp2_with fail
  refine (HCK.out _ HB1.out).mono ?_
  rintro e w2 ⟨rfl, hb2⟩
  have HB2 := hid (bel_next HB1.out hb2)
  have HK2 := hid (HK1.out.below' hb2)
  have hlt2 := HK2.out.lt
  have x0 := HK2.out.cell (i := 0) (v := .int .i64 b.kind) rfl
  have x1 := HK2.out.cell (i := 1) (v := .int .i64 b.pid) rfl
  have x2 := HK2.out.cell (i := 2) (v := .int .i64 b.epoch) rfl
  have x3 := HK2.out.cell (i := 3) (v := .int .i64 b.seq) rfl
  have x4 := HK2.out.cell (i := 4) (v := .slice ad b.l.length cap) rfl
  clear hb2 HB1 HK1 HCK
  go_wp2_with fail
  refine (HPUT.out _ _ (blk_next _ _ _ _)).mono ?_
  rintro e w3 ⟨rfl, hb3⟩
  have hbb := bel_next (bel_alloc (bel_alloc (Below.refl w2.heap.size w2) (.cells #[.pointer none, .slice none 0 0] 166)) (.cells #[.int .i64 b.kind, .int .i64 b.pid, .int .i64 b.epoch, .int .i64 b.seq, .int .i64 (b.l.length : Int)] 3)) hb3
  have HBU := hid (isBuilder_bel (isBuilder_bel (Lib.fresh_isBuilder 166 5 w2) (bel_alloc (Below.refl _ _) (.cells #[.int .i64 b.kind, .int .i64 b.pid, .int .i64 b.epoch, .int .i64 b.seq, .int .i64 (b.l.length : Int)] 3))) hb3)
  have HB3 := hid (bel_next HB2.out hbb)
  have HK3 := hid (HK2.out.below' hbb)
  have hsz3 := hbb.size
  clear hb3 hbb HB2 HK2 HPUT x0 x1 x2 x3 x4
  generalize w2.heap.size = B at HBU hsz3 hlt2 ⊢
  go_wp2_with fail
  refine (Tryz.Builder_WriteString B B _ (bs (putAllL b.head)) w3 HBU.out (by rw [bs_size]; simp; omega) hsz3).mono ?_
  rintro e w4 ⟨rfl, hB4, hb4⟩
  have hB4' : Lib.BuilderAt 166 5 B B (.pointer (some ⟨B, 0, none⟩)) (Lib.byteCells (putAllL b.head)) w4 := by
    have e9 := byteCells_add [] (putAllL b.head)
    rw [List.nil_append] at e9
    rw [← e9]; exact hB4
  have HST : Hid (EncRel w b (.slice ad b.l.length cap) B (.int .i64 0) w4) := hid (by
    have hb9 := hb4.mono (Nat.le_of_lt hlt2)
    refine ⟨0, Nat.zero_le _, rfl, .inr (by rw [List.take_zero]; unfold recsLay; rw [List.flatMap_nil, List.append_nil]; exact hB4'), HB3.out.trans hb9, by have := hb4.size; omega, ?_⟩
    exact HK3.out.below hb4 hlt2)
  have x4 := (HK3.out.below hb4 hlt2).cell (i := 4) (v := .slice ad b.l.length cap) rfl
  clear hB4 hb4 hB4' HB3 HK3 HBU hsz3
  go_wp2_with fail
  go_loopw [30] (fun c wr => EncRel w b (.slice ad b.l.length cap) B c wr) (fun c _ => b.l.length - (intOf c).toNat)
  case atStart => exact HST.out
  case round =>
    clear HST x4
    obtain ⟨k, hk, rfl, hB, hb, hsz, hbk⟩ := hrel
    have HBu := hid hB
    have HB := hid hb
    have HK := hid hbk
    clear hB hb hbk
    by_cases hlt : k < b.l.length
    · obtain ⟨x, hx⟩ : ∃ x, b.l[k]? = some x := ⟨_, List.getElem?_eq_getElem hlt⟩
      obtain ⟨a, rfl, a0, a1, a2⟩ := (HI.out.below HB.out).at hx
      have htk : recsLay (b.l.take (k + 1)) = recsLay (b.l.take k) ++ x.lay := by
        rw [List.take_add_one, hx]
        unfold recsLay
        rw [List.flatMap_append]
        simp
      have HTK := hid htk
      have hxok := HOK.out.2.1 x (List.mem_of_getElem? hx)
      have hxl := hxok.lay_len
      have HPR := hid (fun W => putRec_any x hxok W)
      have hrl := recsLay_len (b.l.take k) (fun r hr => HOK.out.2.1 r (List.mem_of_mem_take hr))
      rw [List.length_take] at hrl
      clear hx htk hxok
      have hq0 : (0 : Int) ≤ (k : Int) := by omega
      have hq1 : (k : Int) < (b.l.length : Int) := by omega
      unfold PRec.val at HPR
      have hba : Below wr.heap.size wr (wr.alloc (.cells #[.int .i64 x.key, .int .i64 x.time, .string (bs x.text)] 36)) := bel_alloc (Below.refl _ _) _
      have HBA := hid hba
      clear hba
      go_wp2_with fail
      refine (HPR.out _).mono ?_
      rintro e w5 ⟨rfl, hb5⟩
      have hb6 := bel_next HBA.out hb5
      have hsz6 := hb6.size
      have HBu6 := hid (isBuilder_bel HBu.out hb6)
      have HB6 := hid (bel_next HB.out hb6)
      have HK6 := hid (HK.out.below' hb6)
      clear hb5 hb6 HBu HB HK HBA HPR
      go_wp2_with fail
      refine (Tryz.Builder_WriteString B B _ (bs x.lay) w5 HBu6.out (by rw [bs_size]; simp [Lib.byteCells]; omega) (by omega)).mono ?_
      rintro e w7 ⟨rfl, hB7, hb7⟩
      rw [byteCells_add, List.append_assoc, ← HTK.out] at hB7
      have HST : Hid (EncRel w b (.slice (some a) b.l.length cap) B (.int .i64 ((k + 1 : Nat) : Int)) w7) := hid ⟨k + 1, by omega, rfl, .inr hB7, HB6.out.trans (hb7.mono (Nat.le_of_lt hlt2)), by have := hb7.size; omega, HK6.out.below hb7 hlt2⟩
      clear hB7 hb7 HBu6 HB6 HK6
      go_wp2_with fail
      go_roundw
      case rel => exact HST.out
      case measure => simp [intOf]; omega
    · obtain rfl : k = b.l.length := by omega
      have HBL : Hid (Lib.IsBuilder 166 5 B B (Lib.byteCells b.lay) wr) := hid (by
        have h9 := HBu.out
        rw [List.take_length] at h9
        exact h9)
      clear HBu HK
      go_wp2_with fail
      refine (Tryz.Builder_String_any B B b.lay wr HBL.out hsz).mono ?_
      rintro e w2 ⟨rfl, hb2⟩
      have HB9 := hid (HB.out.trans (hb2.mono (Nat.le_of_lt hlt2)))
      clear hb2 HBL HB
      go_wp2_with fail
      go_ret2
      exact ⟨rfl, HB9.out⟩
end Go.Proofs.YtgjkjkeeblbjlaaGreatDoor

namespace Go.Proofs.YtgjkjkeeblbjlaaGreatDoor
open Go.RowKit

theorem takeRec_some {t rest : List UInt8} {r : PRec} (h : takeRec t = some (r, rest)) : ∃ r1, takeAllL 2 t = some ([r.key, r.time], r1) ∧ takeTextL r1 512 = some (r.text, rest) ∧ r.ok := by
  unfold takeRec at h
  split at h
  · rename_i k tm r1 he
    split at h
    · rename_i x r2 hx
      split at h
      · rename_i hok
        simp only [Option.some.injEq, Prod.mk.injEq] at h
        obtain ⟨rfl, rfl⟩ := h
        exact ⟨r1, he, hx, hok⟩
      · cases h
    · cases h
  · cases h

def TakePost8 (w : World) (r : PRec) (rest : List UInt8) (e : Ending) (w' : World) : Prop := e = .returned (.tuple #[r.val, .string (bs rest), .int .i64 0]) ∧ Below w.heap.size w w'

set_option maxHeartbeats 1000000 in
theorem takeRec_ret {w w1 : World} {p : Nat} {r : PRec} {rest : List UInt8} {tm : Array Value} (hp : tm[2]? = some (.pointer (some ⟨p, 0, none⟩))) (hs : tm[3]? = some (.string (bs rest))) (hc : tm[4]? = some (.int .i64 0)) (hb : Blk w1 p #[.int .i64 r.key, .int .i64 r.time, .string (bs r.text)] 36) (hB : Below w.heap.size w w1) :
    bodyPost Tryz.prog Tryz.f76 (TakePost8 w r rest) .ret { tmps := tm, defers := [] } w1 := by
  have c0 := hb.cell (i := 0) (v := .int .i64 r.key) rfl
  have c1 := hb.cell (i := 1) (v := .int .i64 r.time) rfl
  have c2 := hb.cell (i := 2) (v := .string (bs r.text)) rfl
  refine bodyPost_ret (v := .tuple #[r.val, .string (bs rest), .int .i64 0]) (by simp [results, Tryz.results76, go_sem, hp, hs, hc, c0, c1, c2, PRec.val]) rfl ⟨rfl, hB⟩

set_option maxHeartbeats 4000000 in
theorem takeRec_any {t rest : List UInt8} {r : PRec} (h : takeRec t = some (r, rest)) (ht : t.length ≤ 1000000) (w : World) :
    Calls Tryz.prog 76 #[.string (bs t)] w (TakePost8 w r rest) := by
  obtain ⟨r1, htk, htx, hok⟩ := takeRec_some h
  have HTK := hid htk
  have HTX := hid htx
  have hrl : r1.length ≤ 1000000 := by
    have h9 : ∀ (n : Nat) (l : List UInt8) (xs : List Int) (r : List UInt8), takeAllL n l = some (xs, r) → r.length ≤ l.length := by
      intro n
      induction n with
      | zero => intro l xs r h9; simp [takeAllL] at h9; rw [h9.2]; exact Nat.le_refl _
      | succ n ih =>
        intro l xs r h9
        rw [takeAllL] at h9
        split at h9
        · cases h9
        · rename_i u r2 hu
          split at h9
          · cases h9
          · rename_i xs2 r3 h8
            simp only [Option.some.injEq, Prod.mk.injEq] at h9
            have h7 := ih _ _ _ h8
            have h6 := takeL_len _ _ _ _ _ hu
            rw [← h9.2]; omega
    have := h9 _ _ _ _ htk
    omega
  have htl : r.text.length ≤ 512 := hok.2.2
  have HMAY : Hid (∀ W, Calls Tryz.prog 61 #[r.val] W fun e w' => e = .returned (.bool true) ∧ Below W.heap.size W w') := hid (fun W => by
    have h9 := may_any r W (by omega)
    rw [decide_eq_true hok] at h9
    exact h9)
  clear h htk htx hok
  obtain ⟨k, tm, x⟩ := r
  unfold PRec.val at HMAY
  dsimp only at HTK HTX HMAY htl
  have hba : Below w.heap.size w (w.alloc (.cells #[.int .i64 0, .int .i64 0, .string ⟨#[]⟩] 36)) := bel_alloc (Below.refl w.heap.size w) _
  have HBA := hid hba
  have HBK := hid (Blk.new w #[.int .i64 0, .int .i64 0, .string ⟨#[]⟩] 36)
  clear hba
  go_enter Tryz.func76, Tryz.ntmps76
  go_wp2_with fail
  refine (takeAll_any (bs t) 2 _ (by show t.length ≤ _; omega) (by omega)).mono ?_
  rintro e w1 ⟨hb1, hm1⟩
  have e7 : takeAllL 2 (tl (bs t)) = some ([k, tm], r1) := HTK.out
  rw [e7] at hm1
  obtain ⟨v1, rfl, hr1, _⟩ := hm1
  obtain ⟨g, cp, rfl⟩ : ∃ g cap, v1 = .slice (some ⟨g, 0, none⟩) 2 cap := by
    rcases Joins.ownsRow_forms hr1 with ⟨_, hz⟩ | ⟨g, cap, rfl⟩
    · omega
    · exact ⟨g, cap, rfl⟩
  have k0 : w1.cell? ⟨g, 0, none⟩ = some (.int .i64 k) := hr1.cellAt 0 (by omega)
  have k1 : w1.cell? ⟨g, 1, none⟩ = some (.int .i64 tm) := hr1.cellAt 1 (by omega)
  have hg1 := (hr1.lt g rfl).2
  have HB1 := hid (bel_next HBA.out hb1)
  have HBK1 := hid (HBK.out.below' hb1)
  clear hr1 hb1 e7 HBA HBK
  go_wp2_with fail
  refine (takeText_any (bs r1) 512 _ (by show r1.length ≤ _; omega)).mono ?_
  rintro e w2 ⟨rfl, hb2⟩
  have e8 : takeTextL (tl (bs r1)) 512 = some (x, rest) := HTX.out
  rw [e8]
  unfold takeTextV
  dsimp only
  have k0 := (hb2.cell (p := ⟨g, 0, none⟩) hg1).trans k0
  have k1 := (hb2.cell (p := ⟨g, 1, none⟩) hg1).trans k1
  have hg2 : g < w2.heap.size := by have := hb2.size; omega
  have hne : g ≠ w2.heap.size := by omega
  have HB2 := hid (bel_next HB1.out hb2)
  have HBK2 := hid (HBK1.out.below' hb2)
  clear hb2 e8 HB1 HBK1
  go_wp2_with fail
  have hb3 : Below w2.heap.size w2 (w2.alloc (.cells #[.int .i64 0, .int .i64 0, .string ⟨#[]⟩] 36)) := bel_alloc (Below.refl _ _) _
  have hk3 := Blk.new w2 #[.int .i64 0, .int .i64 0, .string ⟨#[]⟩] 36
  have k0 := (hb3.cell (p := ⟨g, 0, none⟩) hg2).trans k0
  have k1 := (hb3.cell (p := ⟨g, 1, none⟩) hg2).trans k1
  have HB3 := hid (bel_next HB2.out hb3)
  have HBK3 := hid (HBK2.out.below' hb3)
  have hlt3 := HBK2.out.lt
  have z0 := hk3.cell (i := 0) (v := .int .i64 0) rfl
  have z1 := hk3.cell (i := 1) (v := .int .i64 0) rfl
  have z2 := hk3.cell (i := 2) (v := .string ⟨#[]⟩) rfl
  have f0 := hk3.free 0
  have f1 := hk3.free 1
  have f2 := hk3.free 2
  have HK3 := hid hk3
  have hsz3 := HB2.out.size
  clear hb3 hk3 HB2 HBK2
  generalize w2.alloc (.cells #[.int .i64 0, .int .i64 0, .string ⟨#[]⟩] 36) = w3 at HB3 HBK3 HK3 k0 k1 z0 z1 z2 f0 f1 f2 ⊢
  generalize w2.heap.size = rb at HK3 z0 z1 z2 f0 f1 f2 hne hsz3 hlt3 ⊢
  go_region
  have hf := (((Fr.refl (fun k => k = rb) w3).setCell (p := ⟨rb, 0, none⟩) (.inl rfl) (.int .i64 k)).setCell (p := ⟨rb, 1, none⟩) (.inl rfl) (.int .i64 tm)).setCell (p := ⟨rb, 2, none⟩) (.inl rfl) (.string (bs x))
  have hbS := (((HB3.out.setCell (p := ⟨rb, 0, none⟩) hsz3 (.int .i64 k)).setCell (p := ⟨rb, 1, none⟩) hsz3 (.int .i64 tm)).setCell (p := ⟨rb, 2, none⟩) hsz3 (.string (bs x))).drew
  have hbkS := (HBK3.out.fr hf (fun h9 => by omega)).drew
  have hkS := (((HK3.out.set 0 (.int .i64 k)).set 1 (.int .i64 tm)).set 2 (.string (bs x))).drew
  have hkS' : Blk (((w3.setCell ⟨rb, 0, none⟩ (.int .i64 k)).setCell ⟨rb, 1, none⟩ (.int .i64 tm)).setCell ⟨rb, 2, none⟩ (.string (bs x))).drew rb #[.int .i64 k, .int .i64 tm, .string (bs x)] 36 := by simpa using hkS
  clear hf hkS HB3 HBK3 HK3 k0 k1 z0 z1 z2 f0 f1 f2
  generalize (((w3.setCell ⟨rb, 0, none⟩ (.int .i64 k)).setCell ⟨rb, 1, none⟩ (.int .i64 tm)).setCell ⟨rb, 2, none⟩ (.string (bs x))).drew = w4 at hbS hbkS hkS' ⊢
  have y0 := hkS'.cell (i := 0) (v := .int .i64 k) rfl
  have y1 := hkS'.cell (i := 1) (v := .int .i64 tm) rfl
  have y2 := hkS'.cell (i := 2) (v := .string (bs x)) rfl
  have HB4 := hid hbS
  have HBK4 := hid hbkS
  have HK4 := hid hkS'
  clear hbS hbkS hkS'
  go_wp2_with fail
  refine (HMAY.out _).mono ?_
  rintro e w5 ⟨rfl, hb5⟩
  have hk5 := HK4.out.below' hb5
  have hbk5 := HBK4.out.below' hb5
  have y0 := hk5.cell (i := 0) (v := .int .i64 k) rfl
  have y1 := hk5.cell (i := 1) (v := .int .i64 tm) rfl
  have y2 := hk5.cell (i := 2) (v := .string (bs x)) rfl
  have g0 := hbk5.cell (i := 0) (v := .int .i64 0) rfl
  have g1 := hbk5.cell (i := 1) (v := .int .i64 0) rfl
  have g2 := hbk5.cell (i := 2) (v := .string ⟨#[]⟩) rfl
  have f0 := hbk5.free 0
  have f1 := hbk5.free 1
  have f2 := hbk5.free 2
  have HB5 := hid (bel_next HB4.out hb5)
  have HBK5 := hid hbk5
  clear hb5 hk5 hbk5 HB4 HBK4 HK4
  go_wp2_with fail
  refine takeRec_ret (r := ⟨k, tm, x⟩) rfl rfl rfl ?_ ?_
  · simpa using ((HBK5.out.set 0 (.int .i64 k)).set 1 (.int .i64 tm)).set 2 (.string (bs x))
  · exact ((HB5.out.setCell (p := ⟨w.heap.size, 0, none⟩) (Nat.le_refl _) _).setCell (p := ⟨w.heap.size, 1, none⟩) (Nat.le_refl _) _).setCell (p := ⟨w.heap.size, 2, none⟩) (Nat.le_refl _) _

theorem Tryz.infoRec : (Tryz.prog.info? 36).map (fun i => (i.zero, i.size, i.bytes)) = some (some (.agg #[.int .i64 0, .int .i64 0, .string ⟨#[]⟩]), 3, 32) := by kernel_rfl

theorem takeAllL_le : ∀ (n : Nat) (l : List UInt8) (xs : List Int) (r : List UInt8), takeAllL n l = some (xs, r) → r.length ≤ l.length := by
  intro n
  induction n with
  | zero => intro l xs r h9; simp [takeAllL] at h9; rw [h9.2]; exact Nat.le_refl _
  | succ n ih =>
    intro l xs r h9
    rw [takeAllL] at h9
    split at h9
    · cases h9
    · rename_i u r2 hu
      split at h9
      · cases h9
      · rename_i xs2 r3 h8
        simp only [Option.some.injEq, Prod.mk.injEq] at h9
        have h7 := ih _ _ _ h8
        have h6 := takeL_len _ _ _ _ _ hu
        rw [← h9.2]; omega

theorem takeRec_le {t rest : List UInt8} {r : PRec} (h : takeRec t = some (r, rest)) : rest.length ≤ t.length := by
  obtain ⟨r1, h1, h2, _⟩ := takeRec_some h
  have h3 := takeAllL_le _ _ _ _ h1
  unfold takeTextL at h2
  split at h2
  · cases h2
  · rename_i u r2 hu
    split at h2
    · cases h2
    · simp only [Option.some.injEq, Prod.mk.injEq] at h2
      have h4 := takeL_len _ _ _ _ _ hu
      have h5 : rest.length ≤ r2.length := by rw [← h2.2, List.length_drop]; omega
      omega

/-- A row of one's own, as one that came in. -/
theorem InRecs.of_own {w : World} {base : Nat} {v : Value} {l : List PRec} (h : w.ownsRow base 36 3 v l.length (recCells l)) : InRecs w v l := by
  rcases h.2 with ⟨rfl, hz⟩ | ⟨g, cap, cur, rfl, hg, hh, hcap, hmax, hsz, hcur⟩
  · refine ⟨none, 0, by rw [hz], by omega, by decide, fun j u hu => ?_⟩
    have h9 := (List.getElem?_eq_some_iff.1 hu).1
    rw [recCells_len, hz] at h9
    omega
  · refine ⟨_, cap, rfl, by omega, by omega, fun j u hu => ⟨_, rfl, ?_⟩⟩
    have h9 := (List.getElem?_eq_some_iff.1 hu).1
    rw [recCells_len] at h9
    have e : (⟨g, 0, none⟩ : Addr).add j = ⟨g, j, none⟩ := by
      cases j with
      | zero => simp [Addr.add]
      | succ j => simp [Addr.add]
    rw [e, h.cellAt j (by omega)]
    exact hu

theorem own_not {w : World} {base : Nat} {e : TypeId} {size : Nat} {v : Value} {n : Nat} {xs : List Value} (h : w.ownsRow base e size v n xs) {b : Nat} {c : Array Value} {T : TypeId} (hb : Blk w b c T) (hne : T ≠ e) : v.ownBlock ≠ some b := by
  intro hk
  rcases h.2 with ⟨rfl, _⟩ | ⟨g, cap, cur, rfl, _, hh, _⟩
  · cases hk
  · simp only [Value.ownBlock, Option.some.injEq] at hk
    subst hk
    have h9 : Blk w g cur e := hh
    exact hne (hb.inj h9).2

theorem takeRecs_next {b : PBat} {k : Nat} {t : List UInt8} (hk : k < b.l.length) (h : takeRecs (b.l.length - k) t = some (b.l.drop k, [])) :
    ∃ x t3, b.l[k]? = some x ∧ takeRec t = some (x, t3) ∧ takeRecs (b.l.length - (k + 1)) t3 = some (b.l.drop (k + 1), []) := by
  have e : b.l.length - k = (b.l.length - (k + 1)) + 1 := by omega
  rw [e, takeRecs] at h
  split at h
  · cases h
  · rename_i x t3 hx
    split at h
    · cases h
    · rename_i l2 t4 h2
      simp only [Option.some.injEq, Prod.mk.injEq] at h
      obtain ⟨h3, h4⟩ := h
      have hd : b.l.drop k = b.l[k] :: b.l.drop (k + 1) := List.drop_eq_getElem_cons hk
      rw [hd] at h3
      injection h3 with h5 h6
      refine ⟨x, t3, ?_, hx, ?_⟩
      · rw [List.getElem?_eq_getElem hk, h5]
      · rw [h2, h6, h4]

def DecPost8 (w : World) (b : PBat) (e : Ending) (w' : World) : Prop := ∃ K, e = .returned (.tuple #[b.val K, .int .i64 0]) ∧ w'.ownsRow w.heap.size 36 3 K b.l.length (recCells b.l) ∧ Below w.heap.size w w'

def DecRel (w : World) (b : PBat) (bb : Nat) (s c : Value) (wr : World) : Prop :=
  ∃ (k : Nat) (t : List UInt8) (K : Value), k ≤ b.l.length ∧ s = .string (bs t) ∧ c = .int .i64 k ∧ takeRecs (b.l.length - k) t = some (b.l.drop k, []) ∧ t.length ≤ 1000000 ∧
    wr.ownsRow (w.heap.size + 1) 36 3 K k (recCells (b.l.take k)) ∧ Below w.heap.size w wr ∧ w.heap.size + 1 ≤ wr.heap.size ∧ bb < wr.heap.size ∧
    Blk wr bb #[.int .i64 b.kind, .int .i64 b.pid, .int .i64 b.epoch, .int .i64 b.seq, K] 31 ∧
    Blk wr w.heap.size #[.int .i64 0, .int .i64 0, .int .i64 0, .int .i64 0, .slice none 0 0] 31

set_option maxHeartbeats 1000000 in
theorem dec8_ret {w w1 : World} {p : Nat} {b : PBat} {K : Value} {tm : Array Value} (hp : tm[2]? = some (.pointer (some ⟨p, 0, none⟩))) (hc : tm[3]? = some (.int .i64 0)) (hb : Blk w1 p #[.int .i64 b.kind, .int .i64 b.pid, .int .i64 b.epoch, .int .i64 b.seq, K] 31)
    (hr : w1.ownsRow w.heap.size 36 3 K b.l.length (recCells b.l)) (hB : Below w.heap.size w w1) :
    bodyPost Tryz.prog Tryz.f46 (DecPost8 w b) .ret { tmps := tm, defers := [] } w1 := by
  have c0 := hb.cell (i := 0) (v := .int .i64 b.kind) rfl
  have c1 := hb.cell (i := 1) (v := .int .i64 b.pid) rfl
  have c2 := hb.cell (i := 2) (v := .int .i64 b.epoch) rfl
  have c3 := hb.cell (i := 3) (v := .int .i64 b.seq) rfl
  have c4 := hb.cell (i := 4) (v := K) rfl
  refine bodyPost_ret (v := .tuple #[b.val K, .int .i64 0]) (by simp [results, Tryz.results46, go_sem, hp, hc, c0, c1, c2, c3, c4, PBat.val]) rfl ⟨K, rfl, hr, hB⟩

set_option maxHeartbeats 4000000 in
theorem bDecode_any {t : List UInt8} {b : PBat} (h : batOf t = some b) (ht : t.length ≤ 1000000) (w : World) :
    Calls Tryz.prog 46 #[.string (bs t)] w (DecPost8 w b) := by
  obtain ⟨i1, hi1, hy0, hy1, hy2⟩ := info_parts Tryz.infoRec
  obtain ⟨r1, htk, hrs, hok⟩ := batOf_some h
  have HTK := hid htk
  have HRS := hid hrs
  have HOK := hid hok
  have hrl : r1.length ≤ 1000000 := by have := takeAllL_le _ _ _ _ htk; omega
  have hl64 : b.l.length ≤ 64 := hok.1.2.2
  clear h htk hrs hok
  have hba : Below w.heap.size w (w.alloc (.cells #[.int .i64 0, .int .i64 0, .int .i64 0, .int .i64 0, .slice none 0 0] 31)) := bel_alloc (Below.refl w.heap.size w) _
  have HBA := hid hba
  have HBK := hid (Blk.new w #[.int .i64 0, .int .i64 0, .int .i64 0, .int .i64 0, .slice none 0 0] 31)
  clear hba
  go_enter Tryz.func46, Tryz.ntmps46
  go_wp2_with fail
  refine (takeAll_any (bs t) 5 _ (by show t.length ≤ _; omega) (by omega)).mono ?_
  rintro e w1 ⟨hb1, hm1⟩
  have e7 : takeAllL 5 (tl (bs t)) = some (b.head, r1) := HTK.out
  rw [e7] at hm1
  obtain ⟨v1, rfl, hr1, _⟩ := hm1
  obtain ⟨g, cp, rfl⟩ : ∃ g cap, v1 = .slice (some ⟨g, 0, none⟩) 5 cap := by
    rcases Joins.ownsRow_forms hr1 with ⟨_, hz⟩ | ⟨g, cap, rfl⟩
    · omega
    · exact ⟨g, cap, rfl⟩
  have k0 : w1.cell? ⟨g, 0, none⟩ = some (.int .i64 b.kind) := hr1.cellAt 0 (by omega)
  have k1 : w1.cell? ⟨g, 1, none⟩ = some (.int .i64 b.pid) := hr1.cellAt 1 (by omega)
  have k2 : w1.cell? ⟨g, 2, none⟩ = some (.int .i64 b.epoch) := hr1.cellAt 2 (by omega)
  have k3 : w1.cell? ⟨g, 3, none⟩ = some (.int .i64 b.seq) := hr1.cellAt 3 (by omega)
  have k4 : w1.cell? ⟨g, 4, none⟩ = some (.int .i64 (b.l.length : Int)) := hr1.cellAt 4 (by omega)
  have hg1 := (hr1.lt g rfl).2
  have hgne : g ≠ w1.heap.size := by omega
  have d1 : decide ((b.l.length : Int) < 0) = false := decide_eq_false (by omega)
  have d2 : decide ((64 : Int) < (b.l.length : Int)) = false := decide_eq_false (by omega)
  have HB1 := hid (bel_next HBA.out hb1)
  have HBK1 := hid (HBK.out.below' hb1)
  clear hr1 hb1 e7 HBA HBK
  go_wp2_with fail
  go_region
  have hba2 : Below w1.heap.size w1 (w1.alloc (.cells #[.int .i64 b.kind, .int .i64 b.pid, .int .i64 b.epoch, .int .i64 b.seq, .slice none 0 0] 31)).drew := (bel_alloc (Below.refl _ _) _).drew
  have hbn2 := (Blk.new w1 #[.int .i64 b.kind, .int .i64 b.pid, .int .i64 b.epoch, .int .i64 b.seq, .slice none 0 0] 31).drew
  have k4 := (hba2.cell (p := ⟨g, 4, none⟩) hg1).trans k4
  have hlt1 := HBK1.out.lt
  have hlt2 := hbn2.lt
  have hsz2 := hba2.size
  have HST : Hid (DecRel w b w1.heap.size (.string (bs r1)) (.int .i64 0) (w1.alloc (.cells #[.int .i64 b.kind, .int .i64 b.pid, .int .i64 b.epoch, .int .i64 b.seq, .slice none 0 0] 31)).drew) := hid
    ⟨0, r1, .slice none 0 0, Nat.zero_le _, rfl, rfl, HRS.out, hrl, World.ownsRow_nil _ _ _ _, bel_next HB1.out hba2, by omega, hlt2, hbn2, HBK1.out.below' hba2⟩
  clear hba2 hbn2 HB1 HBK1 k0 k1 k2 k3
  generalize (w1.alloc (.cells #[.int .i64 b.kind, .int .i64 b.pid, .int .i64 b.epoch, .int .i64 b.seq, .slice none 0 0] 31)).drew = w2 at HST k4 hlt2 hsz2 ⊢
  have hbbw : w.heap.size < w1.heap.size := hlt1
  generalize w1.heap.size = bb at HST hbbw hg1 hgne hlt1 hlt2 hsz2 ⊢
  go_wp2_with fail
  go_loopw [0, 47] (fun s c wr => DecRel w b bb s c wr) (fun _ c _ => b.l.length - (intOf c).toNat)
  case atStart => exact HST.out
  case round =>
    clear HST k4
    obtain ⟨k, t2, K, hk, rfl, rfl, hrs, htl, hrow, hb, hsz, hbb, hbl, hbr⟩ := hrel
    obtain ⟨va, vc, rfl⟩ := row_slice hrow
    have HROW := hid hrow
    have HB := hid hb
    have HBL := hid hbl
    have HBR := hid hbr
    clear hrow hb hbl hbr
    by_cases hlt : k < b.l.length
    · obtain ⟨x, t3, hx, hxr, hrs3⟩ := takeRecs_next hlt hrs
      have htl3 := takeRec_le hxr
      have HX := hid hx
      have HRS3 := hid hrs3
      have HXR := hid hxr
      clear hx hxr hrs3 hrs
      go_wp2_with fail
      refine (takeRec_any HXR.out htl _).mono ?_
      rintro e w5 ⟨rfl, hb5⟩
      unfold PRec.val
      have hsz5 := hb5.size
      have hb6 : Below wr.heap.size wr (w5.alloc (.cells #[.int .i64 x.key, .int .i64 x.time, .string (bs x.text)] 36)) := bel_alloc hb5 _
      have hbl6 := HBL.out.below' hb6
      have c4 := hbl6.cell (i := 4) (v := .slice va k vc) rfl
      have f4 := hbl6.free 4
      have HROW6 := hid (own_bel HROW.out hb6)
      have HB6 := hid (bel_next HB.out hb6)
      have HBL6 := hid hbl6
      have HBR6 := hid (HBR.out.below' hb6)
      clear hb5 hb6 hbl6 HXR HROW HB HBL HBR
      go_wp2_with (at_builtin; refine wpList_append_own _ rfl _ _ 29 rfl (w.heap.size + 1) 36 i1 (.agg #[.int .i64 0, .int .i64 0, .string ⟨#[]⟩]) 3 32 Tryz.underlying29 hi1 hy0 hy1 hy2 rfl (by decide) _ _ _ rfl (HROW6.out.alloc _) ⟨w5.heap.size + 1, 0, none⟩ 1 1 [.int .i64 x.key, .int .i64 x.time, .string (bs x.text)] rfl rfl ?c1 ?c2 ?c3 ?c4 ?c5 ?_)
      case c1 =>
        intro j u hj
        have h9 := blk_next w5 (.cells #[.int .i64 x.key, .int .i64 x.time, .string (bs x.text)] 36) #[.int .i64 x.key, .int .i64 x.time, .string (bs x.text)] 36
        have e9 : (⟨w5.heap.size + 1, 0, none⟩ : Addr).add j = ⟨w5.heap.size + 1, j, none⟩ := by
          cases j with
          | zero => simp [Addr.add]
          | succ j => simp [Addr.add]
        rw [e9]
        refine h9.cell ?_
        rw [List.getElem?_toArray]
        exact hj
      case c2 => simp [Value.oneCell']
      case c3 => unfold maxLen; omega
      case c4 => omega
      case c5 => simp; omega
      intro v7 w7 hown7 hgrow7 _
      obtain ⟨va7, vc7, rfl⟩ := row_slice hown7
      have hn6 := own_not HROW6.out HBL6.out (show 31 ≠ 36 by decide)
      have hn6' := own_not HROW6.out HBR6.out (show 31 ≠ 36 by decide)
      have hbl7 := (HBL6.out.alloc (.cells #[.int .i64 x.key, .int .i64 x.time, .string (bs x.text)] 36)).grown hgrow7 hn6
      have hbr7 := (HBR6.out.alloc (.cells #[.int .i64 x.key, .int .i64 x.time, .string (bs x.text)] 36)).grown hgrow7 hn6'
      have hb7 : Below w.heap.size w w7 := bel_append (bel_alloc HB6.out _) (own_base (HROW6.out.alloc _) (by omega)) (by simp; omega) hgrow7
      have c4' := hbl7.cell (i := 4) (v := .slice va k vc) rfl
      have f4' := hbl7.free 4
      have hsz7 : w.heap.size + 1 ≤ w7.heap.size := by have := hbl7.lt; omega
      have hf := (Fr.refl (fun k => k = bb) w7).setCell (p := ⟨bb, 4, none⟩) (.inl rfl) (.slice va7 (k + 1) vc7)
      have hrow8 := row_fr hown7 hf (fun j hj e => own_not hown7 hbl7 (show 31 ≠ 36 by decide) (e ▸ hj))
      have hbl8 : Blk (w7.setCell ⟨bb, 4, none⟩ (.slice va7 (k + 1) vc7)) bb #[.int .i64 b.kind, .int .i64 b.pid, .int .i64 b.epoch, .int .i64 b.seq, .slice va7 (k + 1) vc7] 31 := by simpa using hbl7.set 4 (.slice va7 (k + 1) vc7)
      have htk : recCells (b.l.take (k + 1)) = recCells (b.l.take k) ++ [.int .i64 x.key, .int .i64 x.time, .string (bs x.text)] := by
        rw [List.take_add_one, HX.out, recCells_app]
        simp [recCells, PRec.cells]
      rw [← htk] at hrow8
      have HST : Hid (DecRel w b bb (.string (bs t3)) (.int .i64 ((k + 1 : Nat) : Int)) (w7.setCell ⟨bb, 4, none⟩ (.slice va7 (k + 1) vc7))) := hid
        ⟨k + 1, t3, .slice va7 (k + 1) vc7, by omega, rfl, rfl, HRS3.out, by omega, hrow8, hb7.setCell (p := ⟨bb, 4, none⟩) (Nat.le_of_lt hbbw) _, by simpa using hsz7, by simpa using hbl7.lt, hbl8, hbr7.fr hf (fun e => by omega)⟩
      clear hown7 hgrow7 hn6 hn6' hbl7 hbr7 hb7 hf hrow8 hbl8 htk hsz7 HROW6 HB6 HBL6 HBR6
      go_wp2_with fail
      go_roundw
      case rel => exact HST.out
      case measure => simp [intOf]; omega
    · obtain rfl : k = b.l.length := by omega
      have ht0 : t2 = [] := by
        rw [Nat.sub_self, takeRecs] at hrs
        simp only [Option.some.injEq, Prod.mk.injEq] at hrs
        exact hrs.2
      subst ht0
      have hcode : b.code = 0 := if_pos HOK.out
      rw [List.take_length] at HROW
      have HCK : Hid (Calls Tryz.prog 40 #[b.val (.slice va b.l.length vc)] wr fun e w' => e = .returned (.int .i64 0) ∧ Below wr.heap.size wr w') := hid (by
        have h9 := bCheck_any b _ wr (InRecs.of_own HROW.out) (fun r hr => by have := (HOK.out.2.1 r hr).2.2; omega) (by omega)
        rw [hcode] at h9
        exact h9)
      unfold PBat.val at HCK
      have y0 := HBL.out.cell (i := 0) (v := .int .i64 b.kind) rfl
      have y1 := HBL.out.cell (i := 1) (v := .int .i64 b.pid) rfl
      have y2 := HBL.out.cell (i := 2) (v := .int .i64 b.epoch) rfl
      have y3 := HBL.out.cell (i := 3) (v := .int .i64 b.seq) rfl
      have y4 := HBL.out.cell (i := 4) (v := .slice va b.l.length vc) rfl
      have hbn : bs ([] : List UInt8) = ⟨#[]⟩ := rfl
      rw [hbn]
      clear hcode hrs hbn
      go_wp2_with fail
      refine HCK.out.mono ?_
      rintro e w9 ⟨rfl, hb9⟩
      have hbl9 := HBL.out.below' hb9
      have hbr9 := HBR.out.below' hb9
      have y0 := hbl9.cell (i := 0) (v := .int .i64 b.kind) rfl
      have y1 := hbl9.cell (i := 1) (v := .int .i64 b.pid) rfl
      have y2 := hbl9.cell (i := 2) (v := .int .i64 b.epoch) rfl
      have y3 := hbl9.cell (i := 3) (v := .int .i64 b.seq) rfl
      have y4 := hbl9.cell (i := 4) (v := .slice va b.l.length vc) rfl
      have g0 := hbr9.cell (i := 0) (v := .int .i64 0) rfl
      have g1 := hbr9.cell (i := 1) (v := .int .i64 0) rfl
      have g2 := hbr9.cell (i := 2) (v := .int .i64 0) rfl
      have g3 := hbr9.cell (i := 3) (v := .int .i64 0) rfl
      have g4 := hbr9.cell (i := 4) (v := .slice none 0 0) rfl
      have f0 := hbr9.free 0
      have f1 := hbr9.free 1
      have f2 := hbr9.free 2
      have f3 := hbr9.free 3
      have f4 := hbr9.free 4
      have HBR9 := hid hbr9
      have HB9 := hid (bel_next HB.out hb9)
      have HROW9 := hid (own_bel HROW.out hb9)
      clear hb9 hbl9 hbr9 HBL HBR HB HROW HCK
      go_wp2_with fail
      have hs := ((((HBR9.out.set 0 (.int .i64 b.kind)).set 1 (.int .i64 b.pid)).set 2 (.int .i64 b.epoch)).set 3 (.int .i64 b.seq)).set 4 (.slice va b.l.length vc)
      have hf := (((((Fr.refl (fun k => k = w.heap.size) w9).setCell (p := ⟨w.heap.size, 0, none⟩) (.inl rfl) (.int .i64 b.kind)).setCell (p := ⟨w.heap.size, 1, none⟩) (.inl rfl) (.int .i64 b.pid)).setCell (p := ⟨w.heap.size, 2, none⟩) (.inl rfl) (.int .i64 b.epoch)).setCell (p := ⟨w.heap.size, 3, none⟩) (.inl rfl) (.int .i64 b.seq)).setCell (p := ⟨w.heap.size, 4, none⟩) (.inl rfl) (.slice va b.l.length vc)
      refine dec8_ret (b := b) (K := .slice va b.l.length vc) rfl rfl ?_ ?_ ?_
      · simpa using hs
      · exact own_base (row_fr HROW9.out hf (fun j hj e => by have := (HROW9.out.lt j hj).1; omega)) (by omega)
      · exact ((((HB9.out.setCell (p := ⟨w.heap.size, 0, none⟩) (Nat.le_refl _) _).setCell (p := ⟨w.heap.size, 1, none⟩) (Nat.le_refl _) _).setCell (p := ⟨w.heap.size, 2, none⟩) (Nat.le_refl _) _).setCell (p := ⟨w.heap.size, 3, none⟩) (Nat.le_refl _) _).setCell (p := ⟨w.heap.size, 4, none⟩) (Nat.le_refl _) _
end Go.Proofs.YtgjkjkeeblbjlaaGreatDoor
