/- Stats, the small ones: None, below, Same, Ratio, IsNaN, Abs, bits and back. Stats: the loops. Stats: Even and Off, the program's and the document's. Stats: Off, the program's and the document's. Stats: the document's Off; the examples; the law StatsTells. -/
import Derived.Test.YtpchhfhmopmagaaGreatProg
import Derived.Test.YtpchhfhmopmagaaGreatFo
import Derived.Test.YtpchhfhmopmagaaGreatWd
set_option linter.unusedVariables false
set_option linter.unusedSimpArgs false
/- Stats, the small ones: None, below, Same, Ratio, IsNaN, Abs, bits and back. -/
namespace Go.Proofs.YtpchhfhmopmagaaGreat.St
open Go.RowKit Fl Wd
attribute [local go_sem] run_store_float

theorem none_any (x : Nat) (w : World) : Calls Tryz.prog 240 #[.float .f64 x] w fun e w' => e = .returned (.bool (nan x)) ∧ w = w' := by
  go_enter Tryz.func240, Tryz.ntmps240
  go_wp2
  go_ret
  exact ⟨by simp [feq_self], rfl⟩
theorem isnan_any (x : Nat) (w : World) : Calls Tryz.prog 221 #[.float .f64 x] w fun e w' => e = .returned (.bool (nan x)) ∧ w = w' := by
  go_enter Tryz.func221, Tryz.ntmps221
  go_wp2
  go_ret
  exact ⟨by simp [feq_self], rfl⟩

/-- is it below 0, by its sign? -/
def neg (x : Nat) : Bool := !nan x && x / 9223372036854775808 % 2 == 1
theorem feq_zero {x : Nat} (hx : x < 18446744073709551616) : feq x 0 = true ↔ x = 0 ∨ x = 9223372036854775808 := by
  have h0 : nan 0 = false := by decide +kernel
  have h1 : nan 9223372036854775808 = false := by decide +kernel
  constructor
  · intro h
    unfold feq at h
    simp only [Bool.and_eq_true, decide_eq_true_eq] at h
    obtain ⟨_, h⟩ := h
    unfold key at h
    simp at h
    split at h <;> omega
  · rintro (rfl | rfl) <;> decide +kernel
/-- the same float, NaNs taken together -/
def same (a b : Nat) : Bool := cf a == cf b
theorem cf_num {a : Nat} (h : nan a = false) : cf a = a := by simp [cf, h]
theorem cf_nan {a : Nat} (h : nan a = true) : cf a = nanC := by simp [cf, h]

@[go_sem] theorem run_frombits (n : Int) (w : World) : (callFunc 287 #[.int .u64 n]).run Tryz.prog w = .ok (.value (.float .f64 n.toNat)) w := by
  rw [run_callFunc_extern Tryz.func287 (by kernel_rfl) (by kernel_rfl) (by kernel_rfl) (e := Extern.MathFloatBits.float64frombits) (by kernel_rfl)]; rfl
@[go_sem] theorem run_tobits (n : Nat) (w : World) : (callFunc 222 #[.float .f64 n]).run Tryz.prog w = .ok (.value (.int .u64 (n : Int))) w := by
  rw [run_callFunc_extern Tryz.func222 (by kernel_rfl) (by kernel_rfl) (by kernel_rfl) (e := Extern.MathFloatBits.float64bits) (by kernel_rfl)]; rfl

/-- the bits without their sign -/
def absB (x : Nat) : Nat := x % 9223372036854775808
theorem abs_bits (x : Nat) (hx : x < 18446744073709551616) : (bits .andNot .u64 (x : Int) 9223372036854775808).toNat = absB x := by
  have h := u64_andNot_nat x 9223372036854775808 (by omega) (by omega)
  have e : ((9223372036854775808 : Nat) : Int) = 9223372036854775808 := rfl
  rw [← e, h]
  have e2 : 18446744073709551615 - 9223372036854775808 = 2 ^ 63 - 1 := by decide
  rw [e2, Nat.and_two_pow_sub_one_eq_mod]
  rfl
theorem abs_any (x : Nat) (hx : x < 18446744073709551616) (w : World) : Calls Tryz.prog 283 #[.float .f64 x] w fun e w' => e = .returned (.float .f64 (absB x)) ∧ w = w' := by
  go_enter Tryz.func283, Tryz.ntmps283
  go_wp2
  go_ret
  exact ⟨by rw [← abs_bits x hx]; rfl, rfl⟩

end Go.Proofs.YtpchhfhmopmagaaGreat.St

/- Stats: the loops. -/
namespace Go.Proofs.YtpchhfhmopmagaaGreat.St
open Go.RowKit Fl Wd
attribute [local go_sem] run_store_float

def F (xs : List Nat) : List Value := xs.map (Value.float .f64)
def I (xs : List Int) : List Value := xs.map (Value.int .i64)
/-- what a float call comes to that may make memory -/
def RetB (w : World) (c : Nat) (e : Ending) (w' : World) : Prop := ∃ r, e = .returned (.float .f64 r) ∧ cf r = c ∧ r < 18446744073709551616 ∧ Below w.heap.size w w'

end Go.Proofs.YtpchhfhmopmagaaGreat.St

/- Stats: Even and Off, the program's and the document's. -/
namespace Go.Proofs.YtpchhfhmopmagaaGreat.St
open Go.RowKit Fl Wd
attribute [local go_sem] run_store_float

end Go.Proofs.YtpchhfhmopmagaaGreat.St

/- Stats: Off, the program's and the document's. -/
namespace Go.Proofs.YtpchhfhmopmagaaGreat.St
open Go.RowKit Fl Wd
attribute [local go_sem] run_store_float

theorem isnan_is (x : Nat) (b : Bool) (h : nan x = b) (w : World) : Calls Tryz.prog 221 #[.float .f64 x] w fun e w' => e = .returned (.bool b) ∧ w = w' := h ▸ isnan_any x w
end Go.Proofs.YtpchhfhmopmagaaGreat.St

/- Stats: the document's Off; the examples; the law StatsTells. -/
namespace Go.Proofs.YtpchhfhmopmagaaGreat.St
open Go.RowKit Fl Wd

theorem negFloat_eq {x : Nat} (h1 : 9223372036854775808 ≤ x) (h2 : x < 18446744073709551616) : Op.negFloat .f64 x = absB x := by
  unfold Op.negFloat absB
  have e : 2 ^ (FloatKind.f64.format.exponentBits + FloatKind.f64.format.fractionBits) = 2 ^ 63 := by decide +kernel
  rw [e]
  have : x = 2 ^ 63 + x % 9223372036854775808 := by omega
  generalize x % 9223372036854775808 = y at *
  have hy : y < 2 ^ 63 := by omega
  subst this
  have ho : 2 ^ 63 + y = 2 ^ 63 ||| y := by
    have := Nat.two_pow_add_eq_or_of_lt hy 1
    simpa using this
  rw [ho]
  apply Nat.eq_of_testBit_eq
  intro i
  rw [Nat.testBit_xor, Nat.testBit_or, Nat.testBit_two_pow]
  by_cases hi : 63 = i
  · subst hi
    have : y.testBit 63 = false := Nat.testBit_lt_two_pow hy
    simp [this]
  · simp [hi]
theorem flt_pos {r x : Nat} (hr : r ≤ 9218868437227405312) (hx : x ≤ 9218868437227405312) : flt r x = decide (r < x) := by
  have h1 : nan r = false := (nan_false_iff r).2 (by omega)
  have h2 : nan x = false := (nan_false_iff x).2 (by omega)
  unfold flt; rw [h1, h2]
  unfold key; rw [if_neg (by omega), if_neg (by omega)]
  simp only [Bool.not_false, Bool.true_and]
  rw [decide_eq_decide]; omega
theorem flt_nanr {x y : Nat} (h : nan y = true) : flt x y = false := by unfold flt; rw [h]; simp

end Go.Proofs.YtpchhfhmopmagaaGreat.St
