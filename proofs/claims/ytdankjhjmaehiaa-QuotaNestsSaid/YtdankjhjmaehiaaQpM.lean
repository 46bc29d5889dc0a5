/- Floats that are whole numbers of 2^-20: sums, quotients by 2^20. Quotients of products, told plainly: bit by bit; by halves. A quota's rows as elements of a map; times of bytes, told plainly. -/
import Derived.Test.YtdankjhjmaehiaaUn2
import Derived.Test.YtdankjhjmaehiaaMp
/- Floats that are whole numbers of 2^-20: sums, quotients by 2^20. -/
namespace Go.Proofs.Ytdankjhjmaehiaa.Qu
open Go.RowKit Go.Proofs.Ytdankjhjmaehiaa.Fl Go.Proofs.Ytdankjhjmaehiaa.St

theorem read_posB {b : Nat} (h : b < 9218868437227405312) : ∃ m k : Nat, Ieee.double.read b = .number false m (-1074 + k) ∧ m * 2 ^ k = mag b ∧ m < 2 ^ 53 := by
  have hb : b % 9223372036854775808 = b := by omega
  have hs : (b / 9223372036854775808 % 2 == 1) = false := by
    have : b / 9223372036854775808 = 0 := by omega
    rw [this]; rfl
  unfold Ieee.Format.read
  simp only [infRung_eq, signWeight_eq, binade_eq, least]
  rw [hb, hs]
  by_cases h1 : b < 4503599627370496
  · rw [if_pos h1]
    refine ⟨b, 0, by simp, ?_, by omega⟩
    unfold mag; rw [if_pos (by omega)]; omega
  · rw [if_neg h1, if_pos h]
    refine ⟨_, b / 4503599627370496 - 1, rfl, ?_, by omega⟩
    unfold mag; rw [if_neg (by omega)]
theorem add_exact {x y w : Nat} (hx : x < 9218868437227405312) (hy : y < 9218868437227405312) (hw : w < 9218868437227405312) (h : mag x + mag y = mag w) : floatBits .add .f64 x y = some w := by
  obtain ⟨m, k, e, hm⟩ := read_pos hx
  obtain ⟨n, l, e2, hn⟩ := read_pos hy
  show (((Ieee.double.read x).sum (Ieee.double.read y)).map Ieee.double.write) = some w
  rw [e, e2]
  simp only [Ieee.Datum.sum, Option.map_some]
  have hb : min (-1074 + (k : Int)) (-1074 + (l : Int)) = -1074 + ((min k l : Nat) : Int) := by omega
  rw [hb]
  have e3 : (-1074 + (k : Int) - (-1074 + ((min k l : Nat) : Int))).toNat = k - min k l := by omega
  have e4 : (-1074 + (l : Int) - (-1074 + ((min k l : Nat) : Int))).toNat = l - min k l := by omega
  rw [e3, e4]
  unfold Ieee.signed
  simp only [Bool.false_eq_true, if_false, Nat.shiftLeft_eq]
  have hq : m * 2 ^ (k - min k l) * 2 ^ min k l = mag x := by
    rw [Nat.mul_assoc, ← Nat.pow_add, Nat.sub_add_cancel (Nat.min_le_left _ _)]; exact hm
  have hr : n * 2 ^ (l - min k l) * 2 ^ min k l = mag y := by
    rw [Nat.mul_assoc, ← Nat.pow_add, Nat.sub_add_cancel (Nat.min_le_right _ _)]; exact hn
  generalize m * 2 ^ (k - min k l) = X at *
  generalize n * 2 ^ (l - min k l) = Y at *
  generalize min k l = b at *
  have ht : ((X : Nat) : Int) + ((Y : Nat) : Int) = ((X + Y : Nat) : Int) := by omega
  rw [ht]
  have hd : (X + Y) * 2 ^ b = mag w := by rw [Nat.add_mul]; omega
  have hneg : (if (((X + Y : Nat) : Int) = 0) then (false && false) else decide (((X + Y : Nat) : Int) < 0)) = false := by
    split
    · rfl
    · exact decide_eq_false (by omega)
  rw [hneg]
  show some (Ieee.double.nearest false (((X + Y : Nat) : Int)).natAbs _) = some w
  rw [Int.natAbs_natCast]
  congr 1
  rcases Nat.eq_zero_or_pos w with h0 | h0
  · subst h0
    rw [mag_zero] at hd
    have : X + Y = 0 := by
      rcases Nat.mul_eq_zero.1 hd with h | h
      · exact h
      · have := Nat.two_pow_pos b; omega
    rw [this, nearest_zero]; rfl
  · exact nearest_exact (i := b) (j := 0) h0 hw (by omega) (by rw [hd]; omega) _
theorem read_c20 : Ieee.double.read c20 = .number false 4503599627370496 (-32) := by decide +kernel
/-- a quotient by 2^20 that is exact -/
theorem quo20 {x w : Nat} (hx : x < 9218868437227405312) (hw : w < 9218868437227405312) (h : mag x = mag w * 2 ^ 20) : floatBits .quo .f64 x c20 = some w := by
  obtain ⟨m, k, e, hm, hm53⟩ := read_posB hx
  show (((Ieee.double.read x).quotient (Ieee.double.fractionBits + 2) (Ieee.double.read c20)).map Ieee.double.write) = some w
  rw [e, read_c20]
  have hf : Ieee.double.fractionBits = 52 := rfl
  have h52 : (4503599627370496 : Nat) = 2 ^ 52 := by decide
  have hl : Nat.log2 4503599627370496 = 52 := by decide +kernel
  simp only [Ieee.Datum.quotient, hf, hl]
  rw [if_neg (by decide)]
  have hml : m.log2 ≤ 52 := by
    rcases Nat.eq_zero_or_pos m with h0 | h0
    · subst h0; decide
    · have := (Nat.log2_lt (by omega)).2 hm53; omega
  obtain ⟨d, hd⟩ : ∃ d, 52 + 2 + 52 - m.log2 = d + 52 := ⟨54 - m.log2, by omega⟩
  rw [hd, Nat.shiftLeft_eq, Nat.pow_add, ← Nat.mul_assoc, ← h52, Nat.mul_div_cancel _ (by decide), Nat.mul_mod_left]
  have hz : ((0 : Nat) != 0).toNat = 0 := rfl
  rw [hz, Nat.add_zero]
  show some (Ieee.double.nearest (false ^^ false) (2 * (m * 2 ^ d)) _) = some w
  congr 1
  rcases Nat.eq_zero_or_pos w with h0 | h0
  · subst h0
    rw [mag_zero, Nat.zero_mul] at h
    have : m = 0 := by
      rw [h] at hm
      rcases Nat.mul_eq_zero.1 hm with h | h
      · exact h
      · have := Nat.two_pow_pos k; omega
    subst this
    rw [Nat.zero_mul, Nat.mul_zero, nearest_zero]; rfl
  · refine nearest_exact (i := k + 31) (j := d + 52) h0 hw (by omega) ?_ _
    have e1 : 2 * (m * 2 ^ d) * 2 ^ (k + 31) = m * 2 ^ k * 2 ^ (d + 32) := by
      rw [show k + 31 = k + 31 from rfl, Nat.pow_add 2 k 31, Nat.pow_add 2 d 32]
      have : (2 : Nat) ^ 32 = 2 * 2 ^ 31 := by decide
      rw [this]
      simp only [Nat.mul_left_comm, Nat.mul_assoc]
    rw [e1, hm, h, Nat.mul_assoc, ← Nat.pow_add]
    rw [show 20 + (d + 32) = d + 52 by omega]
theorem rep_pw (K t : Nat) (hK : K < 2 ^ 53) (ht : t ≤ 2000) : ∃ w, mag w = K * pw t ∧ w < 9218868437227405312 := rep K t hK ht
/-- u times 2^-20, as a float -/
noncomputable def fx (u : Nat) : Nat := if h : u < 2 ^ 53 then Classical.choose (rep_pw u 1054 h (by decide)) else 0
theorem fx_spec {u : Nat} (h : u < 2 ^ 53) : mag (fx u) = u * pw 1054 ∧ fx u < 9218868437227405312 := by
  unfold fx
  rw [dif_pos h]
  exact Classical.choose_spec (rep_pw u 1054 h (by decide))
theorem pw_up (a b : Nat) : pw a * 2 ^ b = pw (a + b) := by unfold pw; rw [← Nat.pow_add]
theorem fx_up {u : Nat} (h : u < 2 ^ 53) : mag (fx u) * 2 ^ 20 = u * U := by
  rw [(fx_spec h).1, Nat.mul_assoc, pw_up 1054 20]
  rfl
theorem fx_is {u w : Nat} (h : u < 2 ^ 53) (hw : mag w * 2 ^ 20 = u * U) : fx u = w :=
  mag_inj (Nat.eq_of_mul_eq_mul_right (by decide : 0 < 2 ^ 20) ((fx_up h).trans hw.symm))
theorem fx_zero : fx 0 = 0 := fx_is (by decide) (by rw [mag_zero]; simp)
theorem fx_one : fx 1048576 = one := fx_is (by decide) (by rw [mag_one, Nat.mul_comm])
theorem fx_add {u v : Nat} (h : u + v < 2 ^ 53) : floatBits .add .f64 (fx u) (fx v) = some (fx (u + v)) :=
  add_exact (fx_spec (by omega)).2 (fx_spec (by omega)).2 (fx_spec h).2 (by rw [(fx_spec (u := u) (by omega)).1, (fx_spec (u := v) (by omega)).1, (fx_spec h).1, Nat.add_mul])
theorem fx_quo {u : Nat} (h : u < 2 ^ 53) : floatBits .quo .f64 (floatOfInt .f64 (u : Int)) c20 = some (fx u) := by
  obtain ⟨w, hw, h1, h2⟩ := ofInt_exact u h
  rw [hw]
  exact quo20 h2 (fx_spec h).2 (by rw [h1, fx_up h])
theorem fx_mag {u v : Nat} (hu : u < 2 ^ 53) (hv : v < 2 ^ 53) : mag (fx u) < mag (fx v) ↔ u < v := by
  rw [(fx_spec hu).1, (fx_spec hv).1]
  exact Nat.mul_lt_mul_right (pw_pos 1054)
theorem fx_flt {u v : Nat} (hu : u < 2 ^ 53) (hv : v < 2 ^ 53) : flt (fx u) (fx v) = decide (u < v) := by
  rw [flt_mag (Nat.le_of_lt (fx_spec hu).2) (Nat.le_of_lt (fx_spec hv).2)]
  exact decide_eq_decide.2 (fx_mag hu hv)
theorem fx_feq (u : Nat) (hu : u < 2 ^ 53) : feq (fx u) (fx u) = true := by
  rw [feq_mag (Nat.le_of_lt (fx_spec hu).2) (Nat.le_of_lt (fx_spec hu).2)]; simp
end Go.Proofs.Ytdankjhjmaehiaa.Qu

/- Quotients of products, told plainly: bit by bit; by halves. -/
namespace Go.Proofs.Ytdankjhjmaehiaa.Qu

/-- one bit more -/
theorem bit_more (N c b : Nat) (hc : 0 < c) (hb : b < 2) : (2 * N + b) / c = 2 * (N / c) + (if c ≤ 2 * (N % c) + b then 1 else 0) ∧ (2 * N + b) % c = 2 * (N % c) + b - (if c ≤ 2 * (N % c) + b then c else 0) := by
  have h1 := Nat.div_add_mod N c
  have h2 := Nat.mod_lt N hc
  generalize N / c = q at *
  generalize N % c = r at *
  subst h1
  split
  · have e : 2 * (c * q + r) + b = (2 * r + b - c) + c * (2 * q + 1) := by
      rw [Nat.mul_add, Nat.mul_left_comm, Nat.mul_add c, Nat.mul_one]; omega
    rw [e, Nat.add_mul_div_left _ _ hc, Nat.add_mul_mod_self_left, Nat.div_eq_of_lt (by omega), Nat.mod_eq_of_lt (by omega)]
    omega
  · have e : 2 * (c * q + r) + b = (2 * r + b) + c * (2 * q) := by
      rw [Nat.mul_add, Nat.mul_left_comm]; omega
    rw [e, Nat.add_mul_div_left _ _ hc, Nat.add_mul_mod_self_left, Nat.div_eq_of_lt (by omega), Nat.mod_eq_of_lt (by omega)]
    omega
/-- the bits of h from the top, k of 64 of them -/
def topB (h k : Nat) : Nat := h / 2 ^ (64 - k)
theorem topB_zero (h : Nat) (hh : h < 2 ^ 64) : topB h 0 = 0 := Nat.div_eq_of_lt hh
theorem topB_all (h : Nat) : topB h 64 = h := by unfold topB; simp
theorem topB_succ (h k : Nat) (hk : k < 64) : topB h (k + 1) = 2 * topB h k + h / 2 ^ (63 - k) % 2 := by
  unfold topB
  have e : 64 - k = (63 - k) + 1 := by omega
  have e2 : 64 - (k + 1) = 63 - k := by omega
  rw [e, e2, Nat.pow_succ, ← Nat.div_div_eq_div_mul]
  omega
theorem topB_le (h k : Nat) : topB h k ≤ h := Nat.div_le_self _ _
/-- the halves of a, one by one -/
theorem half_step (a b c : Nat) (hc : 0 < c) : a * b / c = 2 * (a / 2 * b / c) + (if a % 2 = 1 then b / c else 0) + (2 * (a / 2 * b % c) + (if a % 2 = 1 then b % c else 0)) / c ∧ a * b % c = (2 * (a / 2 * b % c) + (if a % 2 = 1 then b % c else 0)) % c := by
  have ha := Nat.div_add_mod a 2
  have h1 := Nat.div_add_mod (a / 2 * b) c
  have h2 := Nat.div_add_mod b c
  have h3 := Nat.mod_lt a (by omega : 0 < 2)
  generalize hq : a / 2 * b / c = q at *
  generalize hr : a / 2 * b % c = r at *
  generalize hq2 : b / c = q2 at *
  generalize hr2 : b % c = r2 at *
  have e : a * b = 2 * (a / 2 * b) + a % 2 * b := by
    conv => lhs; rw [← ha]
    rw [Nat.add_mul, Nat.mul_assoc]
  by_cases ho : a % 2 = 1
  · rw [if_pos ho, if_pos ho]
    rw [ho, Nat.one_mul] at e
    have e2 : a * b = (2 * r + r2) + c * (2 * q + q2) := by
      rw [e, ← h1]
      conv => lhs; rw [← h2]
      rw [Nat.mul_add, Nat.mul_left_comm, Nat.mul_add c]; omega
    rw [e2, Nat.add_mul_div_left _ _ hc, Nat.add_mul_mod_self_left]
    omega
  · rw [if_neg ho, if_neg ho]
    have h0 : a % 2 = 0 := by omega
    rw [h0, Nat.zero_mul, Nat.add_zero] at e
    have e2 : a * b = (2 * r) + c * (2 * q) := by
      rw [e, ← h1, Nat.mul_add, Nat.mul_left_comm]; omega
    rw [e2, Nat.add_mul_div_left _ _ hc, Nat.add_mul_mod_self_left]
    exact ⟨by rw [Nat.add_zero, Nat.add_zero]; exact Nat.add_comm _ _, by rw [Nat.add_zero]⟩
end Go.Proofs.Ytdankjhjmaehiaa.Qu

/- A quota's rows as elements of a map; times of bytes, told plainly. -/
namespace Go.Proofs.Ytdankjhjmaehiaa.Qu
open Go.Proofs.Ytdankjhjmaehiaa.Fl Go.Proofs.Ytdankjhjmaehiaa.Mp

/-- what a class has: its units, what is spare, its table's block -/
structure Rw where
  u : Int
  s : Int
  t : Option Nat
def Rw.val (r : Rw) : Value := .agg #[.int .i64 r.u, .int .i64 r.s, .pointer (r.t.map fun b => ⟨b, 0, none⟩)]
def Rw.nil : Rw := ⟨0, 0, none⟩
def Rw.enc (r : Rw) : DataW Unit := .agg [.lit (.int .i64 r.u), .lit (.int .i64 r.s), match r.t with | none => .nil | some b => natL b]
theorem rw_kind : Kind Rw.val Rw.enc where
  agg a b h := by
    obtain ⟨u, s, t⟩ := a; obtain ⟨u', s', t'⟩ := b
    unfold Rw.val at h
    cases t <;> cases t' <;> simp_all
  enc a b h := by
    obtain ⟨u, s, t⟩ := a; obtain ⟨u', s', t'⟩ := b
    cases t <;> cases t' <;> simp [Rw.enc, natL] at h <;> first | (simp [h]; done) | (simp [h]; omega)
/-- the cells of 8 bytes that so many bytes take, 256 at most -/
def cellsS (n : Int) : Nat := ((max 0 (min n 2048)).toNat + 7) / 8
theorem cells_le (n : Int) : cellsS n ≤ 256 := by unfold cellsS; omega
theorem cells_mul (k : Nat) (h : k ≤ 256) : cellsS ((k : Int) * 8) = k := by unfold cellsS; omega
theorem cells_mono {n m : Int} (h : n ≤ m) : cellsS n ≤ cellsS m := by unfold cellsS; omega
/-- may a table be of these? -/
def rateB (tpb : Int) (u : Nat) : Bool := decide (1 ≤ tpb ∧ tpb ≤ 1048576 ∧ 1 ≤ u ∧ u ≤ 1048576)
/-- the ticks of so many cells -/
def upS (a b c : Nat) : Nat := a * b / c + (if 0 < a * b % c then 1 else 0)
def timeC (tpb : Nat) (u k : Nat) : Nat := upS (8 * k * tpb) 1048576 u
theorem timeC_small (tpb _u k : Nat) (ht : tpb ≤ 1048576) (hk : k ≤ 256) : 8 * k * tpb * 1048576 ≤ 2251799813685248 := by
  have h1 : 8 * k * tpb ≤ 8 * 256 * 1048576 := Nat.mul_le_mul (Nat.mul_le_mul_left _ hk) ht
  exact Nat.le_trans (Nat.mul_le_mul_right _ h1) (by decide)
theorem up_le (a b c : Nat) : upS a b c ≤ a * b + 1 := by
  unfold upS
  have := Nat.div_le_self (a * b) c
  split <;> omega
theorem up_mono {a b c d : Nat} (hd : 0 < d) (h : d ≤ c) : upS a b c ≤ upS a b d := by
  unfold upS
  have h1 : a * b / c ≤ a * b / d := Nat.div_le_div_left h hd
  by_cases he : a * b / c = a * b / d
  · rw [he]
    split
    · split
      · omega
      · rename_i h2 h3
        have h4 : a * b % d = 0 := by omega
        have e1 := Nat.div_add_mod (a * b) c
        have e2 := Nat.div_add_mod (a * b) d
        rw [he] at e1
        have h5 : d * (a * b / d) ≤ c * (a * b / d) := Nat.mul_le_mul_right _ h
        omega
    · omega
  · split <;> split <;> omega
end Go.Proofs.Ytdankjhjmaehiaa.Qu
