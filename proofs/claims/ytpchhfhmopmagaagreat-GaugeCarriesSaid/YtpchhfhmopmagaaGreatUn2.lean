/- Shares as units: the numbers behind Units, the program's by Ldexp and RoundToEven, the document's by halving. -/
import Derived.Test.YtpchhfhmopmagaaGreatUn
import Derived.Test.YtpchhfhmopmagaaGreatStM
set_option linter.unusedVariables false
set_option linter.unusedSimpArgs false
namespace Go.Proofs.YtpchhfhmopmagaaGreat.Fl
open Go.RowKit St

def one : Nat := 4607182418800017408
theorem mag_shift {w k : Nat} (hw : 2 ^ 52 ≤ w) : mag (w + k * 2 ^ 52) = mag w * 2 ^ k := by
  have h1 : w = (w / 2 ^ 52 - 1 + 1) * 2 ^ 52 + w % 2 ^ 52 := by omega
  have h2 : w + k * 2 ^ 52 = (w / 2 ^ 52 - 1 + k + 1) * 2 ^ 52 + w % 2 ^ 52 := by omega
  have hf : w % 2 ^ 52 < 2 ^ 52 := Nat.mod_lt _ (by decide)
  have e1 : mag w = (2 ^ 52 + w % 2 ^ 52) * 2 ^ (w / 2 ^ 52 - 1) := by
    have := mag_step (w / 2 ^ 52 - 1) (w % 2 ^ 52) hf
    rwa [← h1] at this
  have e2 : mag (w + k * 2 ^ 52) = (2 ^ 52 + w % 2 ^ 52) * 2 ^ (w / 2 ^ 52 - 1 + k) := by
    have := mag_step (w / 2 ^ 52 - 1 + k) (w % 2 ^ 52) hf
    rwa [← h2] at this
  rw [e1, e2, Nat.pow_add, Nat.mul_assoc]
theorem mag_small {w : Nat} (h : w < 2 ^ 53) : mag w = w := by
  unfold mag
  split
  · rfl
  · have : w / 2 ^ 52 - 1 = 0 := by omega
    rw [this]; omega
theorem mag_pow (k : Nat) : mag ((k + 1) * 2 ^ 52) = 2 ^ (52 + k) := by
  have := mag_step k 0 (by decide)
  rw [Nat.add_zero, Nat.add_zero] at this
  rw [this, Nat.pow_add]
theorem mag_up (k j : Nat) (h : 52 + k = 1074 + j) : mag ((k + 1) * 2 ^ 52) = 2 ^ j * U := by
  obtain ⟨J, hJ⟩ : ∃ J : Nat, J = 1074 := ⟨_, rfl⟩
  rw [mag_pow, U_of hJ, ← Nat.pow_add, show 52 + k = j + J by omega]
theorem mag_down (k j : Nat) (h : 52 + k + j = 1074) : mag ((k + 1) * 2 ^ 52) * 2 ^ j = U := by
  rw [mag_pow, U_of h, ← Nat.pow_add]
theorem mag_one : mag one = U := by
  have h := mag_up 1022 0 (by decide)
  rwa [Nat.pow_zero, Nat.one_mul, show (1022 + 1) * 2 ^ 52 = one by decide] at h
/-- 2^20, as a float -/
def c20 : Nat := 4697254411347427328
theorem mag_c20 : mag c20 = 2 ^ 20 * U := by
  have h := mag_up 1042 20 (by decide)
  rwa [show (1042 + 1) * 2 ^ 52 = c20 by decide] at h
/-- 2^52, as a float -/
def c52 : Nat := 4841369599423283200
theorem mag_c52 : mag c52 = 2 ^ 52 * U := by
  have h := mag_up 1074 52 (by decide)
  rwa [show (1074 + 1) * 2 ^ 52 = c52 by decide] at h
/-- 2^-53, as a float -/
def cm53 : Nat := 4368491638549381120
theorem mag_cm53 : mag cm53 * 2 ^ 53 = U := by
  have h := mag_down 969 53 (by decide)
  rwa [show (969 + 1) * 2 ^ 52 = cm53 by decide] at h
/-- 1/2, as a float -/
def half : Nat := 4602678819172646912
theorem mag_half : mag half * 2 = U := by
  have h := mag_down 1021 1 (by decide)
  rwa [show (1021 + 1) * 2 ^ 52 = half by decide, Nat.pow_one] at h

theorem flt_mag {x y : Nat} (hx : x ≤ 9218868437227405312) (hy : y ≤ 9218868437227405312) : flt x y = decide (mag x < mag y) := by
  rw [flt_pos hx hy, decide_eq_decide, mag_lt_iff]
theorem feq_mag {x y : Nat} (hx : x ≤ 9218868437227405312) (hy : y ≤ 9218868437227405312) : feq x y = decide (mag x = mag y) := by
  have h1 : nan x = false := (nan_false_iff x).2 (by omega)
  have h2 : nan y = false := (nan_false_iff y).2 (by omega)
  unfold feq; rw [h1, h2]
  unfold key; rw [if_neg (by omega), if_neg (by omega)]
  simp only [Bool.not_false, Bool.true_and]
  rw [decide_eq_decide]
  constructor
  · intro h; congr 1; omega
  · intro h; have := mag_inj h; omega

/-- the product with a power of two is exact -/
theorem mul20 {x : Nat} (h : x ≤ one) : ∃ y, floatBits .mul .f64 x c20 = some y ∧ y < 9218868437227405312 ∧ mag y = mag x * 2 ^ 20 := by
  have hb : one = 4607182418800017408 := rfl
  obtain ⟨K, t, hK, hw, h53, ht⟩ := mag_parts x
  have htb : t ≤ 1100 := by omega
  obtain ⟨y, hy, hy2⟩ := rep K (t + 20) h53 (by omega)
  have hm : mag y = mag x * 2 ^ 20 := by rw [hy, hK, Nat.pow_add, Nat.mul_assoc]
  refine ⟨y, mul_exact (by omega) (by decide) hy2 ?_, hy2, hm⟩
  rw [hm, mag_c20, Nat.mul_assoc]
theorem mul52 {x : Nat} (h : x < 2 ^ 52) : ∃ y, floatBits .mul .f64 x c52 = some y ∧ y < 9218868437227405312 ∧ mag y = x * 2 ^ 52 := by
  obtain ⟨y, hy, hy2⟩ := rep x 52 (by omega) (by omega)
  refine ⟨y, mul_exact (by omega) (by decide) hy2 ?_, hy2, hy⟩
  rw [hy, mag_small (by omega), mag_c52, Nat.mul_assoc]
theorem mul1 {w : Nat} (h : w < 9218868437227405312) : floatBits .mul .f64 one w = some w := mul_exact (by decide) h h (by rw [mag_one, Nat.mul_comm])
theorem mulm53 {x w : Nat} (hx : x < 2 ^ 52) (hw : w < 9218868437227405312) (h : mag w = x * 2 ^ 73) : ∃ y, floatBits .mul .f64 cm53 w = some y ∧ y < 9218868437227405312 ∧ mag y = x * 2 ^ 20 := by
  obtain ⟨y, hy, hy2⟩ := rep x 20 (by omega) (by omega)
  refine ⟨y, mul_exact (by decide) hw hy2 ?_, hy2, hy⟩
  have e : x * 2 ^ 73 = x * 2 ^ 20 * 2 ^ 53 := by rw [Nat.mul_assoc]
  rw [h, hy, e, ← mag_cm53, Nat.mul_comm, Nat.mul_assoc, Nat.mul_comm (2 ^ 53)]

/-- 'RoundToEven' of what is not negative: a whole number -/
theorem round_even {y : Nat} (hy : y < 9218868437227405312) {N : Nat} (hN : rhe (mag y) = N) :
    FloatKind.f64.encode ((FloatKind.f64.decode y).integral .even) = floatOfInt .f64 (N : Int) := by
  obtain ⟨m, k, e, hm⟩ := read_pos hy
  show Ieee.double.write ((Ieee.double.read y).integral .even) = Ieee.double.nearest (decide ((N : Int) < 0)) ((N : Int).natAbs) 0
  rw [e]
  have h1 : decide ((N : Int) < 0) = false := decide_eq_false (by omega)
  rw [h1, Int.natAbs_natCast]
  simp only [Ieee.Datum.integral]
  rw [integral_rhe, hm, hN]
  rfl
/-- 'int(x)' of a whole number -/
theorem int_of {n : Nat} (hn : n < 2 ^ 53) : floatToIntVal .f64 (floatOfInt .f64 (n : Int)) .i64 = some (n : Int) := by
  obtain ⟨w, hw, hm, hw2⟩ := ofInt_exact n hn
  rw [hw]
  obtain ⟨m, k, e, hk⟩ := read_pos hw2
  obtain ⟨J, hJ⟩ : ∃ J : Nat, J = 1074 := ⟨_, rfl⟩
  have hi : (FloatKind.f64.decode w).toInt .zero = some (n : Int) := by
    show (Ieee.double.read w).toInt .zero = _
    rw [e]
    simp only [Ieee.Datum.toInt, Ieee.Datum.integral]
    have hcut : Ieee.Toward.zero.cut false (m <<< (-1074 + (k : Int)).toNat) (-(-1074 + (k : Int))).toNat = n := by
      rw [hm, U_of hJ] at hk
      rcases Nat.eq_zero_or_pos n with h0 | h0
      · subst h0
        have : m = 0 := by
          rcases Nat.mul_eq_zero.1 (hk.trans (Nat.zero_mul _)) with h | h
          · exact h
          · have := Nat.two_pow_pos k; omega
        subst this
        unfold Ieee.Toward.cut
        simp
      · refine cut_exact _ _ ?_ h0
        rw [Nat.shiftLeft_eq]
        by_cases hij : J ≤ k
        · have e1 : (-1074 + (k : Int)).toNat = k - J := by omega
          have e2 : (-(-1074 + (k : Int))).toNat = 0 := by omega
          rw [e1, e2, Nat.pow_zero, Nat.mul_one]
          obtain ⟨d, rfl⟩ : ∃ d, k = d + J := ⟨k - J, by omega⟩
          rw [Nat.pow_add, ← Nat.mul_assoc] at hk
          rw [Nat.add_sub_cancel]
          exact Nat.eq_of_mul_eq_mul_right (Nat.two_pow_pos _) hk
        · have e1 : (-1074 + (k : Int)).toNat = 0 := by omega
          have e2 : (-(-1074 + (k : Int))).toNat = J - k := by omega
          rw [e1, e2, Nat.pow_zero, Nat.mul_one]
          obtain ⟨d, hd⟩ : ∃ d, J = d + k := ⟨J - k, by omega⟩
          rw [hd, Nat.add_sub_cancel]
          rw [hd, Nat.pow_add, ← Nat.mul_assoc] at hk
          exact Nat.eq_of_mul_eq_mul_right (Nat.two_pow_pos _) hk
    rw [hcut]
    simp [Ieee.signed]
  unfold floatToIntVal
  rw [hi]
  have hb : IntKind.i64.min ≤ (n : Int) ∧ (n : Int) ≤ IntKind.i64.max := by
    have h1 : IntKind.i64.min = -9223372036854775808 := by decide
    have h2 : IntKind.i64.max = 9223372036854775807 := by decide
    rw [h1, h2]; omega
  show (if _ then _ else _) = _
  rw [if_pos hb]

/-- units of a share: its number, its error -/
def unitsS (b : Nat) : Nat × Int := if nan b then (0, 21) else if flt b 0 || flt one b then (0, 2) else (rhe (mag (b % 9223372036854775808) * 2 ^ 20), 0)
theorem rhe_le {A : Nat} (h : A ≤ 2 ^ 20 * U) : rhe A ≤ 2 ^ 20 := by
  unfold rhe
  have hu := U_pos
  by_cases he : A = 2 ^ 20 * U
  · rw [he, Nat.mul_div_cancel _ hu, Nat.mul_mod_left, if_neg (by omega)]; omega
  · have : A / U < 2 ^ 20 := (Nat.div_lt_iff_lt_mul hu).2 (by omega)
    split <;> omega
theorem small_mag {b : Nat} (h : b ≤ one) : mag b * 2 ^ 20 ≤ 2 ^ 20 * U := by
  rw [Nat.mul_comm, ← mag_one]
  refine Nat.mul_le_mul_left _ ?_
  rcases Nat.lt_or_eq_of_le h with h | h
  · exact Nat.le_of_lt (mag_lt h)
  · rw [h]; exact Nat.le_refl _
theorem nn_one : nan one = false := by decide +kernel
theorem nn_zero : nan 0 = false := by decide +kernel
/-- what is left: a share in bounds -/
theorem in_bounds {b : Nat} (hb : b < 18446744073709551616) (hn : nan b = false) (h1 : flt b 0 = false) (h2 : flt one b = false) : b ≤ one ∨ b = 9223372036854775808 := by
  have hb' := (nan_false_iff b).1 hn
  unfold flt at h1 h2
  rw [hn, nn_zero] at h1
  rw [hn, nn_one] at h2
  simp only [Bool.not_false, Bool.true_and, decide_eq_false_iff_not] at h1 h2
  have ho : one = 4607182418800017408 := rfl
  unfold key at h1 h2
  simp at h1 h2
  rw [ho] at h2 ⊢
  split at h1 <;> omega

/-- what halving looks at: 'y', and 'A' in units -/
structure Halves (y A : Nat) : Prop where
  le : ∀ m : Nat, 1 ≤ m → m ≤ 1048577 → (flt (floatOfInt .f64 (m : Int)) y || feq (floatOfInt .f64 (m : Int)) y) = decide (m * U ≤ A)
  top : A ≤ 2 ^ 20 * U
  rest : ∃ r, (∀ w, fbits .sub y (floatOfInt .f64 ((A / U : Nat) : Int)) w = r) ∧ fcount .sub y (floatOfInt .f64 ((A / U : Nat) : Int)) = 0 ∧ flt half r = decide (U < 2 * (A % U)) ∧ feq r half = decide (U = 2 * (A % U))

theorem halves_pos {b : Nat} (hb : b ≤ one) : ∃ y, floatBits .mul .f64 b c20 = some y ∧ Halves y (mag b * 2 ^ 20) := by
  obtain ⟨y, hy, hy2, hm⟩ := mul20 hb
  have htop := small_mag hb
  refine ⟨y, hy, ⟨fun m h1 h2 => ?_, htop, ?_⟩⟩
  · obtain ⟨w, hw, hwm, hw2⟩ := ofInt_exact m (by omega)
    rw [hw, flt_mag (by omega) (by omega), feq_mag (by omega) (by omega), hwm, hm, Bool.eq_iff_iff]
    simp only [Bool.or_eq_true, decide_eq_true_eq]
    omega
  · have hu := U_pos
    have hq : mag b * 2 ^ 20 / U ≤ 2 ^ 20 := by
      have := Nat.div_le_div_right (c := U) htop
      rwa [Nat.mul_div_cancel _ hu] at this
    rw [← hm] at hq htop ⊢
    obtain ⟨w, hw, hwm, hw2⟩ := ofInt_exact (mag y / U) (by omega)
    obtain ⟨K, t, hK, hyt, h53, ht⟩ := mag_parts y
    have hrep : ∃ r, mag r = mag y % U ∧ r < 9218868437227405312 := by
      obtain ⟨J, hJ⟩ : ∃ J : Nat, J = 1074 := ⟨_, rfl⟩
      by_cases h : t ≤ J
      · have e : mag y % U = (K % 2 ^ (J - t)) * 2 ^ t := by
          rw [hK, U_of hJ]
          have : 2 ^ J = 2 ^ (J - t) * 2 ^ t := by rw [← Nat.pow_add, Nat.sub_add_cancel h]
          rw [this, Nat.mul_mod_mul_right]
        obtain ⟨r, hr, hr2⟩ := rep (K % 2 ^ (J - t)) t (Nat.lt_of_le_of_lt (Nat.mod_le _ _) h53) (by omega)
        exact ⟨r, by rw [hr, e], hr2⟩
      · refine ⟨0, ?_, by omega⟩
        rw [mag_zero, hK, U_of hJ]
        obtain ⟨d, rfl⟩ : ∃ d, t = d + J := ⟨t - J, by omega⟩
        rw [Nat.pow_add, ← Nat.mul_assoc]; exact (Nat.mul_mod_left _ _).symm
    obtain ⟨r, hr, hr2⟩ := hrep
    have hs : floatBits .sub .f64 y w = some r := by
      refine sub_exact hy2 hw2 hr2 ?_
      rw [hwm, hr, Nat.mul_comm]; exact (Nat.div_add_mod _ _).symm
    rw [hw]
    have hhalf : half < 9218868437227405312 := by decide
    refine ⟨r, fun w0 => by unfold fbits; rw [hs]; rfl, by unfold fcount; rw [hs]; rfl, ?_, ?_⟩
    · rw [flt_mag (by omega) (by omega), hr, decide_eq_decide, ← mag_half]; omega
    · rw [feq_mag (by omega) (by omega), hr, decide_eq_decide, ← mag_half]; omega
theorem halves_neg : floatBits .mul .f64 9223372036854775808 c20 = some 9223372036854775808 ∧ Halves 9223372036854775808 0 := by
  refine ⟨by decide +kernel, ⟨fun m h1 h2 => ?_, by omega, ?_⟩⟩
  · obtain ⟨w, hw, hwm, hw2⟩ := ofInt_exact m (by omega)
    have hu := U_pos
    have h0 : 0 < w := by
      rcases Nat.eq_zero_or_pos w with h | h
      · subst h; rw [mag_zero] at hwm
        have : 0 < m * U := Nat.mul_pos (by omega) hu
        omega
      · exact h
    rw [hw]
    have hn1 : nan w = false := (nan_false_iff w).2 (by omega)
    have hn2 : nan 9223372036854775808 = false := by decide +kernel
    have hd : decide (m * U ≤ 0) = false := decide_eq_false (by have : 0 < m * U := Nat.mul_pos (by omega) hu; omega)
    rw [hd]
    unfold flt feq
    rw [hn1, hn2]
    unfold key
    rw [if_neg (by omega)]
    simp
    omega
  · rw [Nat.zero_div]
    refine ⟨9223372036854775808, fun w => ?_, ?_, ?_, ?_⟩
    · have : floatBits .sub .f64 9223372036854775808 (floatOfInt .f64 ((0 : Nat) : Int)) = some 9223372036854775808 := by decide +kernel
      unfold fbits; rw [this]; rfl
    · have : floatBits .sub .f64 9223372036854775808 (floatOfInt .f64 ((0 : Nat) : Int)) = some 9223372036854775808 := by decide +kernel
      unfold fcount; rw [this]; rfl
    · rw [Nat.zero_mod, decide_eq_false (by have := U_pos; omega)]; decide +kernel
    · rw [Nat.zero_mod, decide_eq_false (by have := U_pos; omega)]; decide +kernel

end Go.Proofs.YtpchhfhmopmagaaGreat.Fl
