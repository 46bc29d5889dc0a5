/- Counts in a hierarchy: children, leaves, levels. -/
import Derived.Test.YtpchhfhmopmagaaGreatRfM
set_option linter.unusedVariables false
set_option linter.unusedSimpArgs false
namespace Go.Proofs.YtpchhfhmopmagaaGreat.Tr
open Go.Proofs.YtpchhfhmopmagaaGreat.Tp Go.Proofs.YtpchhfhmopmagaaGreat.Cl Go.Proofs.YtpchhfhmopmagaaGreat.So
variable {l : List Cls}

theorem sort_ids (i : Int) : i ∈ ids (sortC l) ↔ i ∈ ids l := by
  unfold ids
  simp only [List.mem_map, sort_mem]
end Go.Proofs.YtpchhfhmopmagaaGreat.Tr
