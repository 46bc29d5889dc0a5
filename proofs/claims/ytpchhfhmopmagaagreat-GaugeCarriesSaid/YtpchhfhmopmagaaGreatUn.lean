/- Exact results of floats: a product, a difference, a whole number, and the rounding to a whole number, in units of the least float. -/
import Derived.Test.YtpchhfhmopmagaaGreatFo
set_option linter.unusedVariables false
set_option linter.unusedSimpArgs false
namespace Go.Proofs.YtpchhfhmopmagaaGreat.Fl
open Go.RowKit

/-- 1, in units of the least float -/
def pw (n : Nat) : Nat := 2 ^ n
def U : Nat := pw 1074
theorem U_of {n : Nat} (h : n = 1074) : U = 2 ^ n := show pw 1074 = pw n from congrArg pw h.symm
theorem pw_pos (n : Nat) : 0 < pw n := Nat.two_pow_pos n
theorem U_pos : 0 < U := pw_pos 1074

theorem cut_exact (way : Ieee.Toward) (s : Bool) {n K d : Nat} (h : n = K * 2 ^ d) (hK : 0 < K) : way.cut s n d = K := by
  have hp : 0 < 2 ^ d := Nat.two_pow_pos d
  have hn : n ≠ 0 := by subst h; exact Nat.ne_of_gt (Nat.mul_pos hK hp)
  have hd : d ≤ n.log2 := by
    rw [Nat.le_log2 hn, h]
    exact Nat.le_mul_of_pos_left _ hK
  have hg : (1 <<< min d (n.log2 + 2)) = 2 ^ d := by rw [Nat.min_eq_left (by omega), Nat.shiftLeft_eq, Nat.one_mul]
  unfold Ieee.Toward.cut
  simp only [hg]
  have h1 : n / 2 ^ d = K := by rw [h]; exact Nat.mul_div_cancel _ hp
  have h2 : n % 2 ^ d = 0 := by rw [h]; exact Nat.mul_mod_left _ _
  rw [h1, h2]
  cases way <;> simp <;> omega

/-- a rung as a significand and a place -/
theorem mag_parts (w : Nat) : ∃ K t, mag w = K * 2 ^ t ∧ w = t * 2 ^ 52 + K ∧ K < 2 ^ 53 ∧ (t = 0 ∨ 2 ^ 52 ≤ K) := by
  by_cases h : w < 2 ^ 53
  · refine ⟨w, 0, ?_, by omega, h, .inl rfl⟩
    unfold mag
    split
    · omega
    · have h1 : w / 2 ^ 52 - 1 = 0 := by omega
      rw [h1]; omega
  · refine ⟨2 ^ 52 + w % 2 ^ 52, w / 2 ^ 52 - 1, ?_, by omega, by omega, .inr (by omega)⟩
    unfold mag
    rw [if_neg (by omega)]

theorem log2_mul_pow (m i : Nat) (hm : m ≠ 0) : (m * 2 ^ i).log2 = m.log2 + i := by
  have h1 : m * 2 ^ i ≠ 0 := Nat.mul_ne_zero hm (Nat.ne_of_gt (Nat.two_pow_pos i))
  rw [Nat.log2_eq_iff h1]
  have h2 := (Nat.log2_eq_iff hm).1 rfl
  have hp := Nat.two_pow_pos i
  refine ⟨?_, ?_⟩
  · rw [Nat.pow_add]; exact Nat.mul_le_mul_right _ h2.1
  · rw [show m.log2 + i + 1 = (m.log2 + 1) + i by omega, Nat.pow_add]; exact Nat.mul_lt_mul_of_pos_right h2.2 hp

theorem kept_eq (s : Bool) {m K t i j : Nat} {p : Int} (hp : p + 1074 = (i : Int) - (j : Int)) (h : m * 2 ^ i = K * 2 ^ (t + j)) (hK0 : 0 < K) :
    Ieee.Toward.even.cut s (m <<< (p - ((t : Int) - 1074)).toNat) (((t : Int) - 1074) - p).toNat = K := by
  refine cut_exact _ _ ?_ hK0
  rw [Nat.shiftLeft_eq]
  by_cases hij : j + t ≤ i
  · have e1 : (p - ((t : Int) - 1074)).toNat = i - (j + t) := by omega
    have e2 : (((t : Int) - 1074) - p).toNat = 0 := by omega
    rw [e1, e2, Nat.pow_zero, Nat.mul_one]
    obtain ⟨d, rfl⟩ : ∃ d, i = d + (t + j) := ⟨i - (j + t), by omega⟩
    have e3 : d + (t + j) - (j + t) = d := by omega
    rw [e3]
    rw [Nat.pow_add, ← Nat.mul_assoc] at h
    exact Nat.eq_of_mul_eq_mul_right (Nat.two_pow_pos _) h
  · have e1 : (p - ((t : Int) - 1074)).toNat = 0 := by omega
    have e2 : (((t : Int) - 1074) - p).toNat = (j + t) - i := by omega
    rw [e1, e2, Nat.pow_zero, Nat.mul_one]
    obtain ⟨d, hd⟩ : ∃ d, t + j = d + i := ⟨(j + t) - i, by omega⟩
    have e3 : j + t - i = d := by omega
    rw [e3]
    rw [hd, Nat.pow_add, ← Nat.mul_assoc] at h
    exact Nat.eq_of_mul_eq_mul_right (Nat.two_pow_pos _) h

theorem nearest_of (s : Bool) {m K t : Nat} {p : Int} (hm : m ≠ 0) (hlast : max (p + (m.log2 : Int) - 52) (-1074) = (t : Int) - 1074)
    (hcut : Ieee.Toward.even.cut s (m <<< (p - ((t : Int) - 1074)).toNat) (((t : Int) - 1074) - p).toNat = K) (hw : t * 4503599627370496 + K < 9218868437227405312) :
    Ieee.double.nearest s m p = Ieee.double.word s (t * 4503599627370496 + K) := by
  unfold Ieee.Format.nearest
  have hf : Ieee.double.fractionBits = 52 := rfl
  have hl2 : max (p + (m.log2 : Int) - ((52 : Nat) : Int)) (-1074) = (t : Int) - 1074 := hlast
  rw [if_neg hm]
  simp only [hf, least, hl2, binade_eq, infRung_eq, hcut]
  have e : ((t : Int) - 1074 - -1074).toNat = t := by omega
  rw [e, Nat.min_eq_left (Nat.le_of_lt hw)]

theorem nearest_exact {m : Nat} {p : Int} {w i j : Nat} (hw0 : 0 < w) (hw : w < 9218868437227405312) (hp : p + 1074 = (i : Int) - (j : Int)) (h : m * 2 ^ i = mag w * 2 ^ j) (s : Bool) :
    Ieee.double.nearest s m p = Ieee.double.word s w := by
  obtain ⟨K, t, hK, hwt, hK53, ht⟩ := mag_parts w
  have hK0 : 0 < K := by
    rcases Nat.eq_zero_or_pos K with h0 | h0
    · subst h0; omega
    · exact h0
  rw [hK, Nat.mul_assoc, ← Nat.pow_add] at h
  clear hK
  have hm : m ≠ 0 := by
    rintro rfl
    have : 0 < K * 2 ^ (t + j) := Nat.mul_pos hK0 (Nat.two_pow_pos _)
    omega
  have hl := congrArg Nat.log2 h
  rw [log2_mul_pow m i hm, log2_mul_pow K (t + j) (by omega)] at hl
  have hlK : K.log2 < 53 := (Nat.log2_lt (by omega)).2 hK53
  have h52 : t = 0 ∨ 52 ≤ K.log2 := ht.imp id fun h => (Nat.le_log2 (by omega)).2 h
  have hlast : max (p + (m.log2 : Int) - 52) (-1074) = (t : Int) - 1074 := by
    clear h hK53 ht hwt
    generalize m.log2 = a at *
    generalize K.log2 = b at *
    omega
  have e : w = t * 4503599627370496 + K := by omega
  rw [nearest_of s hm hlast (kept_eq s hp h hK0) (by omega), e]

theorem nearest_zero (s : Bool) (p : Int) : Ieee.double.nearest s 0 p = Ieee.double.word s 0 := by
  unfold Ieee.Format.nearest; rw [if_pos rfl]
theorem mag_inj {a b : Nat} (h : mag a = mag b) : a = b := by
  have h1 := mag_lt_iff a b
  have h2 := mag_lt_iff b a
  omega

set_option maxRecDepth 20000 in
/-- what may be written exactly -/
theorem rep (K t : Nat) (hK : K < 2 ^ 53) (ht : t ≤ 2000) : ∃ w, mag w = K * 2 ^ t ∧ w < 9218868437227405312 := by
  rcases Nat.eq_zero_or_pos K with h0 | h0
  · subst h0; exact ⟨0, by rw [mag_zero]; omega, by omega⟩
  · have hl : K.log2 ≤ 52 := by
      have := (Nat.log2_lt (by omega) (k := 53)).2 hK
      omega
    have hb := (Nat.log2_eq_iff (n := K) (by omega)).1 rfl
    by_cases h : K.log2 + t ≤ 52
    · have hlt : K * 2 ^ t < 2 ^ 53 := by
        have h1 : K * 2 ^ t < 2 ^ (K.log2 + 1) * 2 ^ t := Nat.mul_lt_mul_of_pos_right hb.2 (Nat.two_pow_pos t)
        rw [← Nat.pow_add] at h1
        have h2 : 2 ^ (K.log2 + 1 + t) ≤ 2 ^ 53 := Nat.pow_le_pow_right (by omega) (by omega)
        omega
      refine ⟨K * 2 ^ t, ?_, by omega⟩
      obtain ⟨K', t', hm, hw, h53, ht'⟩ := mag_parts (K * 2 ^ t)
      have : t' = 0 := by
        rcases ht' with h | h
        · exact h
        · rcases Nat.eq_zero_or_pos t' with h0 | h0
          · exact h0
          · have : 2 ^ 52 ≤ t' * 2 ^ 52 := Nat.le_mul_of_pos_left _ h0
            omega
      subst this
      omega
    · have hn : K * 2 ^ (52 - K.log2) < 2 ^ 53 := by
        have h1 : K * 2 ^ (52 - K.log2) < 2 ^ (K.log2 + 1) * 2 ^ (52 - K.log2) := Nat.mul_lt_mul_of_pos_right hb.2 (Nat.two_pow_pos _)
        rw [← Nat.pow_add] at h1
        have e : K.log2 + 1 + (52 - K.log2) = 53 := by omega
        rw [e] at h1; exact h1
      have hn2 : 2 ^ 52 ≤ K * 2 ^ (52 - K.log2) := by
        have h1 : 2 ^ K.log2 * 2 ^ (52 - K.log2) ≤ K * 2 ^ (52 - K.log2) := Nat.mul_le_mul_right _ hb.1
        rw [← Nat.pow_add] at h1
        have e : K.log2 + (52 - K.log2) = 52 := by omega
        rw [e] at h1; exact h1
      have hK' : K * 2 ^ t = (K * 2 ^ (52 - K.log2)) * 2 ^ (K.log2 + t - 52) := by
        rw [Nat.mul_assoc, ← Nat.pow_add]
        have e : 52 - K.log2 + (K.log2 + t - 52) = t := by omega
        rw [e]
      generalize K * 2 ^ (52 - K.log2) = M at *
      refine ⟨(K.log2 + t - 52) * 2 ^ 52 + M, ?_, ?_⟩
      · have e : (K.log2 + t - 52) * 2 ^ 52 + M = (K.log2 + t - 52 + 1) * 2 ^ 52 + (M - 2 ^ 52) := by omega
        have e5 : 2 ^ 52 + (M - 2 ^ 52) = M := by omega
        rw [e, mag_step _ _ (by omega), hK', e5]
      · have : (K.log2 + t - 52) * 2 ^ 52 ≤ 2000 * 2 ^ 52 := Nat.mul_le_mul_right _ (by omega)
        omega

theorem read_pos {b : Nat} (h : b < 9218868437227405312) : ∃ m k : Nat, Ieee.double.read b = .number false m (-1074 + k) ∧ m * 2 ^ k = mag b := by
  obtain ⟨m, k, e, hm⟩ := read_num (b := b) (by omega)
  have h1 : (b / 9223372036854775808 % 2 == 1) = false := by
    have : b / 9223372036854775808 = 0 := by omega
    rw [this]; rfl
  have h2 : b % 9223372036854775808 = b := by omega
  rw [h1] at e; rw [h2] at hm
  exact ⟨m, k, e, hm⟩

theorem mul_exact {x y w : Nat} (hx : x < 9218868437227405312) (hy : y < 9218868437227405312) (hw : w < 9218868437227405312) (h : mag x * mag y = mag w * U) : floatBits .mul .f64 x y = some w := by
  obtain ⟨J, hJ⟩ : ∃ J : Nat, J = 1074 := ⟨_, rfl⟩
  rw [U_of hJ] at h
  obtain ⟨m, k, e, hm⟩ := read_pos hx
  obtain ⟨n, l, e2, hn⟩ := read_pos hy
  show (((Ieee.double.read x).product (Ieee.double.read y)).map Ieee.double.write) = some w
  rw [e, e2]
  show some (Ieee.double.nearest (false ^^ false) (m * n) (-1074 + (k : Int) + (-1074 + (l : Int)))) = some w
  congr 1
  have hmn : m * n * 2 ^ (k + l) = mag w * 2 ^ J := by
    rw [← h, ← hm, ← hn, Nat.pow_add, Nat.mul_mul_mul_comm]
  rcases Nat.eq_zero_or_pos w with h0 | h0
  · subst h0
    rw [mag_zero, Nat.zero_mul] at hmn
    have : m * n = 0 := by
      rcases Nat.mul_eq_zero.1 hmn with h | h
      · exact h
      · have := Nat.two_pow_pos (k + l); omega
    rw [this, nearest_zero]; rfl
  · exact nearest_exact h0 hw (by omega) hmn _

theorem sub_exact {x y w : Nat} (hx : x < 9218868437227405312) (hy : y < 9218868437227405312) (hw : w < 9218868437227405312) (h : mag x = mag y + mag w) : floatBits .sub .f64 x y = some w := by
  obtain ⟨m, k, e, hm⟩ := read_pos hx
  obtain ⟨n, l, e2, hn⟩ := read_pos hy
  show (((Ieee.double.read x).sum (Ieee.double.read y).opposite).map Ieee.double.write) = some w
  rw [e, e2]
  simp only [Ieee.Datum.opposite, Ieee.Datum.sum, Option.map_some, Bool.not_false]
  have hb : min (-1074 + (k : Int)) (-1074 + (l : Int)) = -1074 + ((min k l : Nat) : Int) := by omega
  rw [hb]
  have e3 : (-1074 + (k : Int) - (-1074 + ((min k l : Nat) : Int))).toNat = k - min k l := by omega
  have e4 : (-1074 + (l : Int) - (-1074 + ((min k l : Nat) : Int))).toNat = l - min k l := by omega
  rw [e3, e4]
  unfold Ieee.signed
  simp only [Bool.false_eq_true, if_false, if_true, Nat.shiftLeft_eq]
  have hq : m * 2 ^ (k - min k l) * 2 ^ min k l = mag x := by
    rw [Nat.mul_assoc, ← Nat.pow_add, Nat.sub_add_cancel (Nat.min_le_left _ _)]; exact hm
  have hr : n * 2 ^ (l - min k l) * 2 ^ min k l = mag y := by
    rw [Nat.mul_assoc, ← Nat.pow_add, Nat.sub_add_cancel (Nat.min_le_right _ _)]; exact hn
  generalize m * 2 ^ (k - min k l) = X at *
  generalize n * 2 ^ (l - min k l) = Y at *
  generalize min k l = b at *
  have hXY : Y * 2 ^ b + mag w = X * 2 ^ b := by omega
  have hle : Y ≤ X := by
    have : Y * 2 ^ b ≤ X * 2 ^ b := by omega
    exact Nat.le_of_mul_le_mul_right this (Nat.two_pow_pos b)
  have hn0 : (-(Y : Nat) : Int) = -((Y : Nat) : Int) := rfl
  have ht : ((X : Nat) : Int) + -((Y : Nat) : Int) = ((X - Y : Nat) : Int) := by omega
  rw [ht]
  have hd : (X - Y) * 2 ^ b = mag w := by rw [Nat.sub_mul]; omega
  have hneg : (if (((X - Y : Nat) : Int) = 0) then (false && true) else decide (((X - Y : Nat) : Int) < 0)) = false := by
    split
    · rfl
    · exact decide_eq_false (by omega)
  rw [hneg]
  show some (Ieee.double.nearest false (((X - Y : Nat) : Int)).natAbs _) = some w
  rw [Int.natAbs_natCast]
  congr 1
  rcases Nat.eq_zero_or_pos w with h0 | h0
  · subst h0
    rw [mag_zero] at hd
    have : X - Y = 0 := by
      rcases Nat.mul_eq_zero.1 hd with h | h
      · exact h
      · have := Nat.two_pow_pos b; omega
    rw [this, nearest_zero]; rfl
  · exact nearest_exact (i := b) (j := 0) h0 hw (by omega) (by rw [hd]; omega) _

/-- a whole number as a float -/
theorem ofInt_exact (n : Nat) (hn : n < 2 ^ 53) : ∃ w, floatOfInt .f64 (n : Int) = w ∧ mag w = n * U ∧ w < 9218868437227405312 := by
  obtain ⟨J, hJ⟩ : ∃ J : Nat, J = 1074 := ⟨_, rfl⟩
  obtain ⟨w, hw, hw2⟩ := rep n J hn (by omega)
  refine ⟨w, ?_, by rw [U_of hJ]; exact hw, hw2⟩
  show Ieee.double.nearest (decide ((n : Int) < 0)) ((n : Int).natAbs) 0 = w
  have h1 : decide ((n : Int) < 0) = false := decide_eq_false (by omega)
  rw [h1, Int.natAbs_natCast]
  rcases Nat.eq_zero_or_pos w with h0 | h0
  · subst h0
    rw [mag_zero] at hw
    have : n = 0 := by
      rcases Nat.mul_eq_zero.1 hw.symm with h | h
      · exact h
      · have := Nat.two_pow_pos J; omega
    rw [this, nearest_zero]; rfl
  · exact nearest_exact (i := J) (j := 0) h0 hw2 (by omega) (by rw [hw]; omega) _

/-- to the nearest whole number, by halves to the even one -/
def rhe (A : Nat) : Nat := A / U + if U < 2 * (A % U) ∨ (U = 2 * (A % U) ∧ A / U % 2 = 1) then 1 else 0

theorem far (m d : Nat) (h : m.log2 + 2 < d) : m / 2 ^ (m.log2 + 2) = 0 ∧ m % 2 ^ (m.log2 + 2) = m ∧ m / 2 ^ d = 0 ∧ m % 2 ^ d = m ∧
    ¬ 2 ^ (m.log2 + 2) < 2 * m ∧ ¬ 2 ^ (m.log2 + 2) = 2 * m ∧ ¬ 2 ^ d < 2 * m ∧ ¬ 2 ^ d = 2 * m := by
  have hm : m < 2 ^ (m.log2 + 1) := Nat.lt_log2_self
  have hm2 : 2 ^ (m.log2 + 2) = 2 ^ (m.log2 + 1) * 2 := Nat.pow_succ ..
  have hm3 : 2 ^ (m.log2 + 2) ≤ 2 ^ d := Nat.pow_le_pow_right (by omega) (by omega)
  generalize 2 ^ (m.log2 + 2) = g at *
  generalize 2 ^ (m.log2 + 1) = g' at *
  generalize 2 ^ d = D at *
  exact ⟨Nat.div_eq_of_lt (by omega), Nat.mod_eq_of_lt (by omega), Nat.div_eq_of_lt (by omega), Nat.mod_eq_of_lt (by omega), by omega, by omega, by omega, by omega⟩

theorem integral_rhe {m k : Nat} : Ieee.Toward.even.cut false (m <<< (-1074 + (k : Int)).toNat) (-(-1074 + (k : Int))).toNat = rhe (m * 2 ^ k) := by
  obtain ⟨J, hJ⟩ : ∃ J : Nat, J = 1074 := ⟨_, rfl⟩
  unfold Ieee.Toward.cut rhe
  by_cases hk0 : J ≤ k
  · have e1 : (-1074 + (k : Int)).toNat = k - J := by omega
    have e2 : (-(-1074 + (k : Int))).toNat = 0 := by omega
    have e3 : m * 2 ^ k = m * 2 ^ (k - J) * U := by rw [U_of hJ, Nat.mul_assoc, ← Nat.pow_add, Nat.sub_add_cancel hk0]
    rw [e1, e2, e3, Nat.mul_div_cancel _ U_pos, Nat.mul_mod_left]
    have es : m <<< (k - J) = m * 2 ^ (k - J) := Nat.shiftLeft_eq ..
    rw [es]
    generalize m * 2 ^ (k - J) = X
    have hu := U_pos
    rw [if_neg (by omega)]
    have hg : (1 <<< min 0 (X.log2 + 2)) = 1 := by rw [Nat.zero_min]; rfl
    simp only [hg, Nat.div_one, Nat.mod_one]
    simp
  · have e1 : (-1074 + (k : Int)).toNat = 0 := by omega
    obtain ⟨d, hd⟩ : ∃ d, d + k = J := ⟨J - k, by omega⟩
    have e2 : (-(-1074 + (k : Int))).toNat = d := by omega
    rw [e1, e2, Nat.shiftLeft_zero]
    have hP : U = 2 ^ d * 2 ^ k := by rw [U_of hJ, ← Nat.pow_add, hd]
    have hpk := Nat.two_pow_pos k
    have hpd := Nat.two_pow_pos d
    have hdiv : m * 2 ^ k / U = m / 2 ^ d := by rw [hP, Nat.mul_div_mul_right _ _ hpk]
    have hmod : m * 2 ^ k % U = (m % 2 ^ d) * 2 ^ k := by rw [hP, Nat.mul_mod_mul_right]
    have hsh : (1 <<< min d (m.log2 + 2)) = 2 ^ min d (m.log2 + 2) := by rw [Nat.shiftLeft_eq, Nat.one_mul]
    rw [hdiv, hmod, hP]
    have c1 : (2 ^ d * 2 ^ k < 2 * (m % 2 ^ d * 2 ^ k)) ↔ 2 ^ d < 2 * (m % 2 ^ d) := by
      rw [← Nat.mul_assoc]; exact Nat.mul_lt_mul_right hpk
    have c2 : (2 ^ d * 2 ^ k = 2 * (m % 2 ^ d * 2 ^ k)) ↔ 2 ^ d = 2 * (m % 2 ^ d) := by
      rw [← Nat.mul_assoc]; exact ⟨fun h => Nat.eq_of_mul_eq_mul_right hpk h, fun h => congrArg (· * 2 ^ k) h⟩
    simp only [c1, c2, hsh]
    by_cases hdl : d ≤ m.log2 + 2
    · rw [Nat.min_eq_left hdl]
      refine congrArg (m / 2 ^ d + ·) ?_
      by_cases h1 : 2 ^ d < 2 * (m % 2 ^ d)
      · simp [h1]
      · by_cases h2 : 2 ^ d = 2 * (m % 2 ^ d)
        · by_cases h3 : m / 2 ^ d % 2 = 1
          · simp [← h2, h3]
          · simp [← h2, h3]
        · simp [h1, h2]
    · rw [Nat.min_eq_right (by omega)]
      obtain ⟨h1, h2, h3, h4, n1, n2, n3, n4⟩ := far m d (by omega)
      rw [h1, h2, h3, h4]
      simp [n1, n3, n4]

end Go.Proofs.YtpchhfhmopmagaaGreat.Fl
