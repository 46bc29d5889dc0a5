/- The order of two floats of 64 bits is the order of whole numbers (their rungs, with a sign). -/
import Derived.Test.YtpchhfhmopmagaaGreatFl
set_option linter.unusedVariables false
set_option linter.unusedSimpArgs false
namespace Go.Proofs.YtpchhfhmopmagaaGreat.Fl
open Go.RowKit

/-- a float's place among all, as a whole number; both zeros: 0 -/
def key (b : Nat) : Int := if b / 9223372036854775808 % 2 = 1 then -((b % 9223372036854775808 : Nat) : Int) else ((b % 9223372036854775808 : Nat) : Int)

/-- what a rung stands for, in units of the least number -/
def mag (r : Nat) : Nat := if r < 2 ^ 52 then r else (2 ^ 52 + r % 2 ^ 52) * 2 ^ (r / 2 ^ 52 - 1)

theorem mag_step (e f : Nat) (hf : f < 2 ^ 52) : mag ((e + 1) * 2 ^ 52 + f) = (2 ^ 52 + f) * 2 ^ e := by
  unfold mag
  have h1 : ¬ (e + 1) * 2 ^ 52 + f < 2 ^ 52 := by omega
  rw [if_neg h1]
  have h2 : ((e + 1) * 2 ^ 52 + f) % 2 ^ 52 = f := by omega
  have h3 : ((e + 1) * 2 ^ 52 + f) / 2 ^ 52 - 1 = e := by omega
  rw [h2, h3]

theorem mag_lt_succ (r : Nat) : mag r < mag (r + 1) := by
  by_cases h : r < 2 ^ 52
  · by_cases h2 : r + 1 < 2 ^ 52
    · unfold mag; rw [if_pos h, if_pos h2]; omega
    · have e : r + 1 = (0 + 1) * 2 ^ 52 + 0 := by omega
      rw [e, mag_step 0 0 (by omega)]
      unfold mag; rw [if_pos h]; omega
  · obtain ⟨e, f, hf, hr⟩ : ∃ e f, f < 2 ^ 52 ∧ r = (e + 1) * 2 ^ 52 + f := ⟨r / 2 ^ 52 - 1, r % 2 ^ 52, by omega, by omega⟩
    rw [hr, mag_step e f hf]
    have hp : 0 < 2 ^ e := Nat.two_pow_pos e
    by_cases h2 : f + 1 < 2 ^ 52
    · rw [Nat.add_assoc, mag_step e (f + 1) h2]
      exact Nat.mul_lt_mul_of_pos_right (by omega) hp
    · have ef : f = 2 ^ 52 - 1 := by omega
      have e2 : (e + 1) * 2 ^ 52 + f + 1 = ((e + 1) + 1) * 2 ^ 52 + 0 := by omega
      rw [e2, mag_step (e + 1) 0 (by omega), show 2 ^ (e + 1) = 2 ^ e * 2 from Nat.pow_succ .., ef]
      clear e2 hr
      generalize 2 ^ e = q at *
      omega
theorem mag_lt {a b : Nat} (h : a < b) : mag a < mag b := by
  induction b with
  | zero => omega
  | succ b ih =>
    have := mag_lt_succ b
    by_cases e : a = b
    · subst e; exact this
    · exact Nat.lt_trans (ih (by omega)) this
theorem mag_lt_iff (a b : Nat) : mag a < mag b ↔ a < b := by
  refine ⟨fun h => ?_, mag_lt⟩
  by_cases e : a < b
  · exact e
  · by_cases e2 : a = b
    · subst e2; omega
    · have := mag_lt (a := b) (b := a) (by omega); omega
theorem mag_zero : mag 0 = 0 := by decide +kernel

/-- a word that is a number, in units -/
def units (b : Nat) : Int := if b / 9223372036854775808 % 2 = 1 then -((mag (b % 9223372036854775808) : Nat) : Int) else ((mag (b % 9223372036854775808) : Nat) : Int)

theorem least : Ieee.double.leastPlace = -1074 := by decide +kernel

/-- the reading of a word that is a number: its sign, a magnitude and a place from the least one on -/
theorem read_num {b : Nat} (h : b % 9223372036854775808 < 9218868437227405312) : ∃ (m k : Nat),
    Ieee.double.read b = .number (b / 9223372036854775808 % 2 == 1) m (-1074 + k) ∧ m * 2 ^ k = mag (b % 9223372036854775808) := by
  unfold Ieee.Format.read
  simp only [infRung_eq, signWeight_eq, binade_eq, least]
  by_cases h1 : b % 9223372036854775808 < 4503599627370496
  · rw [if_pos h1]
    refine ⟨b % 9223372036854775808, 0, by simp, ?_⟩
    unfold mag; rw [if_pos (by omega)]; omega
  · rw [if_neg h1, if_pos h]
    refine ⟨_, b % 9223372036854775808 / 4503599627370496 - 1, rfl, ?_⟩
    unfold mag; rw [if_neg (by omega)]

theorem read_inf {b : Nat} (h : b % 9223372036854775808 = 9218868437227405312) : Ieee.double.read b = .infinity (b / 9223372036854775808 % 2 == 1) := by
  unfold Ieee.Format.read
  simp only [infRung_eq, signWeight_eq, binade_eq, least]
  rw [if_neg (by omega), if_neg (by omega), if_pos h]

theorem compare_mul (a b : Int) (k : Nat) : compare (a * (2 ^ k : Nat)) (b * (2 ^ k : Nat)) = compare a b := by
  have hp : (0 : Int) < ((2 ^ k : Nat) : Int) := by have := Nat.two_pow_pos k; omega
  generalize ((2 ^ k : Nat) : Int) = q at hp ⊢
  have h1 : a * q < b * q ↔ a < b := Int.mul_lt_mul_right hp
  have h2 : a * q = b * q ↔ a = b := ⟨fun h => Int.eq_of_mul_eq_mul_right (by omega) h, fun h => by rw [h]⟩
  simp only [compare, compareOfLessAndEq, h1, h2]

theorem signed_mul (s : Bool) (m i k : Nat) : Ieee.signed s m i * (2 ^ k : Nat) = Ieee.signed s m (i + k) := by
  unfold Ieee.signed
  rw [Nat.shiftLeft_eq, Nat.shiftLeft_eq, Nat.pow_add]
  split
  · rw [Int.neg_mul, ← Int.natCast_mul, Nat.mul_assoc]
  · rw [← Int.natCast_mul, Nat.mul_assoc]

/-- the order of two numbers: that of their units -/
theorem order_num (s t : Bool) (m n i j : Nat) : (Ieee.Datum.number s m (-1074 + i)).order (.number t n (-1074 + j)) =
    some (compare (Ieee.signed s m i) (Ieee.signed t n j)) := by
  simp only [Ieee.Datum.order]
  congr 1
  rw [← compare_mul (Ieee.signed s m _) _ (min i j), signed_mul, signed_mul]
  congr 2 <;> omega

theorem signed_zero (m k : Nat) (s : Bool) : Ieee.signed s m k = if s = true then -((m * 2 ^ k : Nat) : Int) else ((m * 2 ^ k : Nat) : Int) := by
  unfold Ieee.signed; rw [Nat.shiftLeft_eq]

theorem compare_congr {a b c d : Int} (h1 : a < b ↔ c < d) (h2 : a = b ↔ c = d) : compare a b = compare c d := by
  simp only [compare, compareOfLessAndEq, h1, h2]
theorem compare_lt {a b : Int} (h : a < b) : compare a b = .lt := by simp [compare, compareOfLessAndEq, h]
theorem compare_gt {a b : Int} (h : b < a) : compare a b = .gt := by
  simp only [compare, compareOfLessAndEq]; rw [if_neg (by omega), if_neg (by omega)]

theorem compare_key (s t : Bool) (a b : Nat) : compare (if s = true then -((mag a : Nat) : Int) else ((mag a : Nat) : Int)) (if t = true then -((mag b : Nat) : Int) else ((mag b : Nat) : Int)) =
    compare (if s = true then -((a : Nat) : Int) else (a : Int)) (if t = true then -((b : Nat) : Int) else (b : Int)) := by
  have h1 := mag_lt_iff a b
  have h2 := mag_lt_iff b a
  have h3 := mag_lt_iff 0 a
  have h4 := mag_lt_iff 0 b
  rw [mag_zero] at h3 h4
  generalize mag a = ma at *
  generalize mag b = mb at *
  cases s <;> cases t <;> simp only [if_true, Bool.false_eq_true, if_false] <;> exact compare_congr (by omega) (by omega)

/-- THE ORDER OF TWO FLOATS IS THAT OF THEIR KEYS -/
theorem order_key {x y : Nat} (hx : nan x = false) (hy : nan y = false) : Ieee.double.order x y = some (compare (key x) (key y)) := by
  have hx' := (nan_false_iff x).1 hx
  have hy' := (nan_false_iff y).1 hy
  unfold Ieee.Format.order key
  by_cases ex : x % 9223372036854775808 = 9218868437227405312
  · rw [read_inf ex]
    by_cases ey : y % 9223372036854775808 = 9218868437227405312
    · rw [read_inf ey, ex, ey]
      have a1 : x / 9223372036854775808 % 2 = 0 ∨ x / 9223372036854775808 % 2 = 1 := by omega
      have a2 : y / 9223372036854775808 % 2 = 0 ∨ y / 9223372036854775808 % 2 = 1 := by omega
      rcases a1 with a1 | a1 <;> rcases a2 with a2 | a2 <;> rw [a1, a2] <;> decide +kernel
    · obtain ⟨m, k, e, _⟩ := read_num (b := y) (by omega)
      rw [e, ex]
      have a1 : x / 9223372036854775808 % 2 = 0 ∨ x / 9223372036854775808 % 2 = 1 := by omega
      rcases a1 with a1 | a1 <;> rw [a1]
      · rw [compare_gt (by split <;> omega)]; rfl
      · rw [compare_lt (by split <;> omega)]; rfl
  · obtain ⟨m, k, e, hm⟩ := read_num (b := x) (by omega)
    rw [e]
    by_cases ey : y % 9223372036854775808 = 9218868437227405312
    · rw [read_inf ey, ey]
      have a1 : y / 9223372036854775808 % 2 = 0 ∨ y / 9223372036854775808 % 2 = 1 := by omega
      rcases a1 with a1 | a1 <;> rw [a1]
      · rw [compare_lt (by split <;> omega)]; rfl
      · rw [compare_gt (by split <;> omega)]; rfl
    · obtain ⟨n, l, e2, hn⟩ := read_num (b := y) (by omega)
      rw [e2, order_num, signed_zero, signed_zero, hm, hn, compare_key]
      simp only [beq_iff_eq]

theorem order_left {x y : Nat} (h : nan x = true) : Ieee.double.order x y = none := by
  obtain ⟨s, t, e⟩ := read_nan h
  unfold Ieee.Format.order; rw [e]; rfl
theorem order_right {x y : Nat} (h : nan y = true) : Ieee.double.order x y = none := by
  obtain ⟨s, t, e⟩ := read_nan h
  unfold Ieee.Format.order; rw [e]; cases Ieee.double.read x <;> rfl

/-- '<' and '==' of floats, as Bools over keys -/
def flt (x y : Nat) : Bool := !nan x && !nan y && decide (key x < key y)
def feq (x y : Nat) : Bool := !nan x && !nan y && decide (key x = key y)
theorem order_cases (x y : Nat) : Ieee.double.order x y = if nan x || nan y then none else some (compare (key x) (key y)) := by
  cases hx : nan x
  · cases hy : nan y
    · simp; exact order_key hx hy
    · simp; exact order_right hy
  · simp; exact order_left hx
theorem order_lt (x y : Nat) : (Ieee.double.order x y == some .lt) = flt x y := by
  rw [order_cases]; unfold flt
  cases nan x <;> cases nan y <;> simp [compare, compareOfLessAndEq]
  split
  · simp [*]
  · split <;> simp [*]
theorem order_gt (x y : Nat) : (Ieee.double.order x y == some .gt) = flt y x := by
  rw [order_cases]; unfold flt
  cases nan x <;> cases nan y <;> simp [compare, compareOfLessAndEq]
  split
  · simp; omega
  · split
    · simp; omega
    · simp; omega
theorem order_eq (x y : Nat) : (Ieee.double.order x y == some .eq) = feq x y := by
  rw [order_cases]; unfold feq
  cases nan x <;> cases nan y <;> simp [compare, compareOfLessAndEq]
  split
  · simp; omega
  · split <;> simp [*]
theorem order_ne (x y : Nat) : (Ieee.double.order x y != some .eq) = !feq x y := by rw [bne, order_eq]

@[go_sem] theorem order_lt64 (x y : Nat) : (FloatKind.f64.format.order x y == some .lt) = flt x y := order_lt x y
@[go_sem] theorem order_gt64 (x y : Nat) : (FloatKind.f64.format.order x y == some .gt) = flt y x := order_gt x y
@[go_sem] theorem order_eq64 (x y : Nat) : (FloatKind.f64.format.order x y == some .eq) = feq x y := order_eq x y
@[go_sem] theorem order_ne64 (x y : Nat) : (FloatKind.f64.format.order x y != some .eq) = !feq x y := order_ne x y

theorem feq_self (x : Nat) : feq x x = !nan x := by unfold feq; cases nan x <;> simp
end Go.Proofs.YtpchhfhmopmagaaGreat.Fl
