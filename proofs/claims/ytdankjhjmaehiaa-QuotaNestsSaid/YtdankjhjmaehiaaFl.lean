/- Floats of 64 bits as whole numbers: what '+', '-', '*', '/', the comparisons and the builtin max give, NaNs taken together; the run of a float operation as one equation, draws counted. -/
import Derived.WalkKit
import Derived.WalkSpells
import Derived.WalkLawsBesides
import Derived.Laws.FloatArith
namespace Go.Proofs.Ytdankjhjmaehiaa.Fl
open Go.RowKit

/-- is it no number? -/
def nan (b : Nat) : Bool := (Ieee.double.read b).isNaN
/-- one NaN for all -/
def nanC : Nat := 9221120237041090561
def cf (b : Nat) : Nat := if nan b then nanC else b
theorem nan_nanC : nan nanC = true := by decide +kernel
theorem nan_cf (b : Nat) : nan (cf b) = nan b := by
  unfold cf; split
  · rename_i h; rw [nan_nanC, h]
  · rfl
theorem cf_cf (b : Nat) : cf (cf b) = cf b := by
  have := nan_cf b
  unfold cf at *
  split
  · simp [nan_nanC]
  · rename_i h; simp

def top : Nat := 2047 * 2 ^ 52
theorem infRung_eq : Ieee.double.infRung = 9218868437227405312 := by decide +kernel
theorem signWeight_eq : Ieee.double.signWeight = 9223372036854775808 := by decide +kernel
theorem binade_eq : Ieee.double.binade = 4503599627370496 := by decide +kernel

theorem nan_iff (b : Nat) : nan b = true ↔ 9218868437227405312 < b % 9223372036854775808 := by
  unfold nan Ieee.Format.read
  simp only [infRung_eq, signWeight_eq, binade_eq]
  by_cases h1 : b % 9223372036854775808 < 4503599627370496
  · simp [h1, Ieee.Datum.isNaN]; omega
  · rw [if_neg h1]
    by_cases h2 : b % 9223372036854775808 < 9218868437227405312
    · simp [h2, Ieee.Datum.isNaN]; omega
    · rw [if_neg h2]
      by_cases h3 : b % 9223372036854775808 = 9218868437227405312
      · rw [if_pos h3]; simp [h3, Ieee.Datum.isNaN]
      · rw [if_neg h3]; simp [Ieee.Datum.isNaN]; omega

theorem nan_false_iff (b : Nat) : nan b = false ↔ b % 9223372036854775808 ≤ 9218868437227405312 := by
  have := nan_iff b
  cases h : nan b <;> simp [h] at this ⊢ <;> omega

theorem read_nan {b : Nat} (h : nan b = true) : ∃ s t, Ieee.double.read b = .nan s t := by
  unfold nan at h
  cases e : Ieee.double.read b <;> rw [e] at h <;> simp [Ieee.Datum.isNaN] at h
  exact ⟨_, _, rfl⟩

theorem word_nan (s : Bool) {r : Nat} (h : r ≤ 9218868437227405312) : nan (Ieee.double.word s r) = false := by
  rw [nan_false_iff]
  unfold Ieee.Format.word
  rw [signWeight_eq]
  split
  · rw [Nat.add_mod_left, Nat.mod_eq_of_lt (by omega)]; exact h
  · rw [Nat.mod_eq_of_lt (by omega)]; exact h

theorem nearest_nan (s : Bool) (m : Nat) (p : Int) : nan (Ieee.double.nearest s m p) = false := by
  unfold Ieee.Format.nearest
  split
  · exact word_nan s (by omega)
  · exact word_nan s (by rw [infRung_eq]; exact Nat.min_le_right _ _)

theorem write_nan {d : Ieee.Datum} (h : d.isNaN = false) : nan (Ieee.double.write d) = false := by
  cases d with
  | number s m p => exact nearest_nan s m p
  | infinity s => exact word_nan s (by rw [infRung_eq]; exact Nat.le_refl _)
  | nan s t => simp [Ieee.Datum.isNaN] at h

theorem product_nan {x y d : Ieee.Datum} (h : x.product y = some d) : d.isNaN = false := by
  cases x <;> cases y <;> simp [Ieee.Datum.product] at h <;> first | (subst h; rfl) | (obtain ⟨_, rfl⟩ := h; rfl)
theorem sum_nan {x y d : Ieee.Datum} (h : x.sum y = some d) : d.isNaN = false := by
  cases x <;> cases y <;> simp [Ieee.Datum.sum] at h <;> first | (subst h; rfl) | (obtain ⟨_, rfl⟩ := h; rfl)
theorem quotient_nan {n : Nat} {x y d : Ieee.Datum} (h : x.quotient n y = some d) : d.isNaN = false := by
  cases x with
  | nan => simp [Ieee.Datum.quotient] at h
  | infinity s => cases y <;> simp [Ieee.Datum.quotient] at h; subst h; rfl
  | number s m i =>
    cases y with
    | nan => simp [Ieee.Datum.quotient] at h
    | infinity t => simp [Ieee.Datum.quotient] at h; subst h; rfl
    | number t k j =>
      simp only [Ieee.Datum.quotient] at h
      split at h
      · split at h
        · cases h
        · cases h; rfl
      · cases h; rfl

/-- the operations with NaNs taken together -/
def fop (op : BinOp) (x y : Nat) : Nat := (floatBits op .f64 x y).getD nanC

theorem map_write {o : Option Ieee.Datum} {r : Nat} (h : o.map Ieee.double.write = some r) : ∃ d, o = some d ∧ r = Ieee.double.write d := by
  cases o with
  | none => cases h
  | some d => cases h; exact ⟨d, rfl, rfl⟩

theorem floatBits_nan {op : BinOp} {x y r : Nat} (h : floatBits op .f64 x y = some r) : nan r = false := by
  unfold floatBits at h
  split at h
  · obtain ⟨d, hd, rfl⟩ := map_write h; exact write_nan (sum_nan hd)
  · obtain ⟨d, hd, rfl⟩ := map_write h; exact write_nan (sum_nan hd)
  · obtain ⟨d, hd, rfl⟩ := map_write h; exact write_nan (product_nan hd)
  · obtain ⟨d, hd, rfl⟩ := map_write h; exact write_nan (quotient_nan hd)
  · cases h

theorem floatBits_left {op : BinOp} {x y : Nat} (h : nan x = true) : floatBits op .f64 x y = none := by
  obtain ⟨s, t, e⟩ := read_nan h
  unfold floatBits
  split <;> first | rfl | (simp only [FloatKind.format, Ieee.Format.add, Ieee.Format.sub, Ieee.Format.mul, Ieee.Format.div, e]; rfl)
theorem floatBits_right {op : BinOp} {x y : Nat} (h : nan y = true) : floatBits op .f64 x y = none := by
  obtain ⟨s, t, e⟩ := read_nan h
  unfold floatBits
  split <;> first | rfl | (simp only [FloatKind.format, Ieee.Format.add, Ieee.Format.sub, Ieee.Format.mul, Ieee.Format.div, e]; cases Ieee.double.read x <;> rfl)

theorem floatBits_cf (op : BinOp) (x y : Nat) : floatBits op .f64 (cf x) (cf y) = floatBits op .f64 x y := by
  by_cases hx : nan x = true
  · rw [floatBits_left hx, floatBits_left (by rw [nan_cf]; exact hx)]
  · by_cases hy : nan y = true
    · rw [floatBits_right hy, floatBits_right (by rw [nan_cf]; exact hy)]
    · have e1 : cf x = x := by unfold cf; rw [if_neg hx]
      have e2 : cf y = y := by unfold cf; rw [if_neg hy]
      rw [e1, e2]

theorem cf_fop (op : BinOp) (x y : Nat) : cf (fop op x y) = fop op x y := by
  unfold fop
  cases h : floatBits op .f64 x y with
  | none => simp [cf, nan_nanC]
  | some r => simp [cf, floatBits_nan h]
theorem fop_cf (op : BinOp) (x y : Nat) : fop op (cf x) (cf y) = fop op x y := by unfold fop; rw [floatBits_cf]

/-- the tape's NaN -/
def drawnNan (q : Question) (w : World) : Nat := q.cut (w.tape w.drawn q)
theorem nan_drawn (x y : Nat) (w : World) : nan (drawnNan (.nanBits .f64 x y) w) = true := by
  rw [nan_iff]
  unfold drawnNan Question.cut
  simp only []
  generalize w.tape w.drawn _ = t
  have h1 : t / 2 % (2 ^ 52 - 1) < 2 ^ 52 - 1 := Nat.mod_lt _ (by decide)
  have h2 : t % 2 = 0 ∨ t % 2 = 1 := by omega
  rcases h2 with h2 | h2 <;> rw [h2] <;> omega
theorem nan_drawnMax (x y : Nat) (mx : Bool) (w : World) : nan (drawnNan (.nanMinMax .f64 mx x y) w) = true := by
  rw [nan_iff]
  unfold drawnNan Question.cut
  simp only []
  generalize w.tape w.drawn _ = t
  have h1 : t / 2 % (2 ^ 52 - 1) < 2 ^ 52 - 1 := Nat.mod_lt _ (by decide)
  have h2 : t % 2 = 0 ∨ t % 2 = 1 := by omega
  rcases h2 with h2 | h2 <;> rw [h2] <;> omega

/-- the bits that an operation gives in a world; how many draws it makes -/
def fbits (op : BinOp) (x y : Nat) (w : World) : Nat := (floatBits op .f64 x y).getD (drawnNan (.nanBits .f64 x y) w)
def fcount (op : BinOp) (x y : Nat) : Nat := if (floatBits op .f64 x y).isSome then 0 else 1
theorem cf_fbits (op : BinOp) (x y : Nat) (w : World) : cf (fbits op x y w) = fop op (cf x) (cf y) := by
  rw [fop_cf]
  unfold fbits fop
  cases h : floatBits op .f64 x y with
  | none => simp [cf, nan_drawn]
  | some r => simp [cf, floatBits_nan h]

section
variable {P : Program} (w : World)
theorem run_float (op : BinOp) (hop : op = .add ∨ op = .sub ∨ op = .mul ∨ op = .quo) (t : TypeId) (x y : Nat) :
    (binOp op t (.float .f64 x) (.float .f64 y)).run P w = .ok (.float .f64 (fbits op x y w)) (w.drewN (fcount op x y)) := by
  have key : ∀ o : Option Nat, floatBits op .f64 x y = o → (binOp op t (.float .f64 x) (.float .f64 y)).run P w = .ok (.float .f64 (o.getD (drawnNan (.nanBits .f64 x y) w))) (w.drewN (if o.isSome then 0 else 1)) := by
    intro o ho
    cases o with
    | some r => exact run_float_arith w op t .f64 x y r ho
    | none =>
      unfold floatBits at ho
      rcases hop with rfl | rfl | rfl | rfl <;> simp only at ho <;> simp [binOp, Op.floatArith, ho, choose, drawnNan] <;> rfl
  exact key _ rfl
@[go_sem] theorem run_fadd (t : TypeId) (x y : Nat) : (binOp .add t (.float .f64 x) (.float .f64 y)).run P w = .ok (.float .f64 (fbits .add x y w)) (w.drewN (fcount .add x y)) := run_float w _ (.inl rfl) t x y
@[go_sem] theorem run_fsub (t : TypeId) (x y : Nat) : (binOp .sub t (.float .f64 x) (.float .f64 y)).run P w = .ok (.float .f64 (fbits .sub x y w)) (w.drewN (fcount .sub x y)) := run_float w _ (.inr (.inl rfl)) t x y
@[go_sem] theorem run_fmul (t : TypeId) (x y : Nat) : (binOp .mul t (.float .f64 x) (.float .f64 y)).run P w = .ok (.float .f64 (fbits .mul x y w)) (w.drewN (fcount .mul x y)) := run_float w _ (.inr (.inr (.inl rfl))) t x y
@[go_sem] theorem run_fquo (t : TypeId) (x y : Nat) : (binOp .quo t (.float .f64 x) (.float .f64 y)).run P w = .ok (.float .f64 (fbits .quo x y w)) (w.drewN (fcount .quo x y)) := run_float w _ (.inr (.inr (.inr rfl))) t x y
end

@[go_sem] theorem unary_neg_float (x : Nat) : Op.unary .neg (.float .f64 x) = pure (.float .f64 (Op.negFloat .f64 x)) := rfl

end Go.Proofs.Ytdankjhjmaehiaa.Fl
