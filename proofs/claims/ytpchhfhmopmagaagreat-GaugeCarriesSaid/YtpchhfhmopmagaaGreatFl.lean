/- Floats of 64 bits as whole numbers: what '+', '-', '*', '/', the comparisons and the builtin max give, NaNs taken together; the run of a float operation as one equation, draws counted. -/
import Derived.WalkKit
import Derived.WalkSpells
import Derived.WalkLawsBesides
import Derived.Laws.FloatArith
set_option linter.unusedVariables false
set_option linter.unusedSimpArgs false
namespace Go.Proofs.YtpchhfhmopmagaaGreat.Fl
open Go.RowKit

/-- is it no number? -/
def nan (b : Nat) : Bool := (Ieee.double.read b).isNaN
/-- one NaN for all -/
def nanC : Nat := 9221120237041090561
def cf (b : Nat) : Nat := if nan b then nanC else b
theorem nan_nanC : nan nanC = true := by decide +kernel
def top : Nat := 2047 * 2 ^ 52
theorem infRung_eq : Ieee.double.infRung = 9218868437227405312 := by decide +kernel
theorem signWeight_eq : Ieee.double.signWeight = 9223372036854775808 := by decide +kernel
theorem binade_eq : Ieee.double.binade = 4503599627370496 := by decide +kernel

theorem nan_iff (b : Nat) : nan b = true ↔ 9218868437227405312 < b % 9223372036854775808 := by
  unfold nan Ieee.Format.read
  simp only [infRung_eq, signWeight_eq, binade_eq]
  by_cases h1 : b % 9223372036854775808 < 4503599627370496
  · simp [h1, Ieee.Datum.isNaN]; omega
  · rw [if_neg h1]
    by_cases h2 : b % 9223372036854775808 < 9218868437227405312
    · simp [h2, Ieee.Datum.isNaN]; omega
    · rw [if_neg h2]
      by_cases h3 : b % 9223372036854775808 = 9218868437227405312
      · rw [if_pos h3]; simp [h3, Ieee.Datum.isNaN]
      · rw [if_neg h3]; simp [Ieee.Datum.isNaN]; omega

theorem nan_false_iff (b : Nat) : nan b = false ↔ b % 9223372036854775808 ≤ 9218868437227405312 := by
  have := nan_iff b
  cases h : nan b <;> simp [h] at this ⊢ <;> omega

theorem read_nan {b : Nat} (h : nan b = true) : ∃ s t, Ieee.double.read b = .nan s t := by
  unfold nan at h
  cases e : Ieee.double.read b <;> rw [e] at h <;> simp [Ieee.Datum.isNaN] at h
  exact ⟨_, _, rfl⟩

/-- the tape's NaN -/
def drawnNan (q : Question) (w : World) : Nat := q.cut (w.tape w.drawn q)
/-- the bits that an operation gives in a world; how many draws it makes -/
def fbits (op : BinOp) (x y : Nat) (w : World) : Nat := (floatBits op .f64 x y).getD (drawnNan (.nanBits .f64 x y) w)
def fcount (op : BinOp) (x y : Nat) : Nat := if (floatBits op .f64 x y).isSome then 0 else 1
section
variable {P : Program} (w : World)
theorem run_float (op : BinOp) (hop : op = .add ∨ op = .sub ∨ op = .mul ∨ op = .quo) (t : TypeId) (x y : Nat) :
    (binOp op t (.float .f64 x) (.float .f64 y)).run P w = .ok (.float .f64 (fbits op x y w)) (w.drewN (fcount op x y)) := by
  have key : ∀ o : Option Nat, floatBits op .f64 x y = o → (binOp op t (.float .f64 x) (.float .f64 y)).run P w = .ok (.float .f64 (o.getD (drawnNan (.nanBits .f64 x y) w))) (w.drewN (if o.isSome then 0 else 1)) := by
    intro o ho
    cases o with
    | some r => exact run_float_arith w op t .f64 x y r ho
    | none =>
      unfold floatBits at ho
      rcases hop with rfl | rfl | rfl | rfl <;> simp only at ho <;> simp [binOp, Op.floatArith, ho, choose, drawnNan] <;> rfl
  exact key _ rfl
@[go_sem] theorem run_fadd (t : TypeId) (x y : Nat) : (binOp .add t (.float .f64 x) (.float .f64 y)).run P w = .ok (.float .f64 (fbits .add x y w)) (w.drewN (fcount .add x y)) := run_float w _ (.inl rfl) t x y
@[go_sem] theorem run_fsub (t : TypeId) (x y : Nat) : (binOp .sub t (.float .f64 x) (.float .f64 y)).run P w = .ok (.float .f64 (fbits .sub x y w)) (w.drewN (fcount .sub x y)) := run_float w _ (.inr (.inl rfl)) t x y
@[go_sem] theorem run_fmul (t : TypeId) (x y : Nat) : (binOp .mul t (.float .f64 x) (.float .f64 y)).run P w = .ok (.float .f64 (fbits .mul x y w)) (w.drewN (fcount .mul x y)) := run_float w _ (.inr (.inr (.inl rfl))) t x y
@[go_sem] theorem run_fquo (t : TypeId) (x y : Nat) : (binOp .quo t (.float .f64 x) (.float .f64 y)).run P w = .ok (.float .f64 (fbits .quo x y w)) (w.drewN (fcount .quo x y)) := run_float w _ (.inr (.inr (.inr rfl))) t x y
end

@[go_sem] theorem unary_neg_float (x : Nat) : Op.unary .neg (.float .f64 x) = pure (.float .f64 (Op.negFloat .f64 x)) := rfl

end Go.Proofs.YtpchhfhmopmagaaGreat.Fl
