/- The law TreeCompiles. -/
import Derived.Test.YtbbcnagognimlaaGreatTr10
set_option linter.unusedVariables false
set_option linter.unusedSimpArgs false
namespace Go.Proofs.YtbbcnagognimlaaGreat.Tr
open Go.RowKit Go.Maps Go.Proofs.YtbbcnagognimlaaGreat.Wd Go.Proofs.YtbbcnagognimlaaGreat.Li Go.Proofs.YtbbcnagognimlaaGreat.Mp Go.Proofs.YtbbcnagognimlaaGreat.Tp Go.Proofs.YtbbcnagognimlaaGreat.Cl Go.Proofs.YtbbcnagognimlaaGreat.So Go.Proofs.YtbbcnagognimlaaGreat.Sw
attribute [local go_sem] run_store_float Lx.opX Rel.oneOk
attribute [local irreducible] Lx.wpX

end Go.Proofs.YtbbcnagognimlaaGreat.Tr
