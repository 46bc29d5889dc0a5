/- The document's example of a hierarchy. -/
import Derived.Test.YtbbcnagognimlaaGreatClM
import Derived.Test.YtbbcnagognimlaaGreatTr9
set_option linter.unusedVariables false
set_option linter.unusedSimpArgs false
namespace Go.Proofs.YtbbcnagognimlaaGreat.Tr
open Go.RowKit Go.Proofs.YtbbcnagognimlaaGreat.Wd Go.Proofs.YtbbcnagognimlaaGreat.Tp Go.Proofs.YtbbcnagognimlaaGreat.Cl Go.Proofs.YtbbcnagognimlaaGreat.So Go.Proofs.YtbbcnagognimlaaGreat.Fl

theorem units_one : unitsS 4607182418800017408 = (2 ^ 20, 0) := by
  unfold unitsS
  rw [if_neg (by decide +kernel), if_neg (by decide +kernel)]
  have h := mag_one
  unfold one at h
  rw [show 4607182418800017408 % 9223372036854775808 = 4607182418800017408 from rfl, h, Nat.mul_comm]
  unfold rhe
  have hp := U_pos
  rw [Nat.mul_div_cancel _ hp, Nat.mul_mod_left, if_neg (by omega)]
end Go.Proofs.YtbbcnagognimlaaGreat.Tr
