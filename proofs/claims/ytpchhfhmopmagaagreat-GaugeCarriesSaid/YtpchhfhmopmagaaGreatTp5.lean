/- The document's example of a hierarchy. -/
import Derived.Test.YtpchhfhmopmagaaGreatClM
import Derived.Test.YtpchhfhmopmagaaGreatTr9
set_option linter.unusedVariables false
set_option linter.unusedSimpArgs false
namespace Go.Proofs.YtpchhfhmopmagaaGreat.Tr
open Go.RowKit Go.Proofs.YtpchhfhmopmagaaGreat.Wd Go.Proofs.YtpchhfhmopmagaaGreat.Tp Go.Proofs.YtpchhfhmopmagaaGreat.Cl Go.Proofs.YtpchhfhmopmagaaGreat.So Go.Proofs.YtpchhfhmopmagaaGreat.Fl

theorem units_one : unitsS 4607182418800017408 = (2 ^ 20, 0) := by
  unfold unitsS
  rw [if_neg (by decide +kernel), if_neg (by decide +kernel)]
  have h := mag_one
  unfold one at h
  rw [show 4607182418800017408 % 9223372036854775808 = 4607182418800017408 from rfl, h, Nat.mul_comm]
  unfold rhe
  have hp := U_pos
  rw [Nat.mul_div_cancel _ hp, Nat.mul_mod_left, if_neg (by omega)]
end Go.Proofs.YtpchhfhmopmagaaGreat.Tr
