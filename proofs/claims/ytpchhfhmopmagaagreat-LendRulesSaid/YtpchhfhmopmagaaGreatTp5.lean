/- The document's example of a hierarchy. -/
import Derived.Test.YtpchhfhmopmagaaGreatClM
import Derived.Test.YtpchhfhmopmagaaGreatTr9
set_option linter.unusedVariables false
set_option linter.unusedSimpArgs false
namespace Go.Proofs.YtpchhfhmopmagaaGreat.Tr
open Go.RowKit Go.Proofs.YtpchhfhmopmagaaGreat.Wd Go.Proofs.YtpchhfhmopmagaaGreat.Tp Go.Proofs.YtpchhfhmopmagaaGreat.Cl Go.Proofs.YtpchhfhmopmagaaGreat.So Go.Proofs.YtpchhfhmopmagaaGreat.Fl

def exK (i p : Int) : Cls := ⟨i, p, 4607182418800017408, 0, 1, 1, 0, 0, 0, false, false⟩
theorem units_one : unitsS 4607182418800017408 = (2 ^ 20, 0) := by
  unfold unitsS
  rw [if_neg (by decide +kernel), if_neg (by decide +kernel)]
  have h := mag_one
  unfold one at h
  rw [show 4607182418800017408 % 9223372036854775808 = 4607182418800017408 from rfl, h, Nat.mul_comm]
  unfold rhe
  have hp := U_pos
  rw [Nat.mul_div_cancel _ hp, Nat.mul_mod_left, if_neg (by omega)]
theorem right_ex (i p : Int) (hi : 1 ≤ i ∧ i ≤ 65535) (hp : 0 ≤ p ∧ p ≤ 65535) (hne : p ≠ i) : rightS (exK i p) = 0 := by
  unfold rightS exK fairS
  simp [units_one]
  omega
end Go.Proofs.YtpchhfhmopmagaaGreat.Tr
