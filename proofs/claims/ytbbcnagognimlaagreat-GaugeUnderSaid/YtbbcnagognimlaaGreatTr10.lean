/- The law's example. -/
import Derived.Test.YtbbcnagognimlaaGreatTp5
set_option linter.unusedVariables false
set_option linter.unusedSimpArgs false
namespace Go.Proofs.YtbbcnagognimlaaGreat.Tr
open Go.RowKit Go.Maps Go.Proofs.YtbbcnagognimlaaGreat.Wd Go.Proofs.YtbbcnagognimlaaGreat.Li Go.Proofs.YtbbcnagognimlaaGreat.Mp Go.Proofs.YtbbcnagognimlaaGreat.Tp Go.Proofs.YtbbcnagognimlaaGreat.Cl Go.Proofs.YtbbcnagognimlaaGreat.So Go.Proofs.YtbbcnagognimlaaGreat.Sw
attribute [local go_sem] run_store_float

end Go.Proofs.YtbbcnagognimlaaGreat.Tr
