/- Counts in a hierarchy: children, leaves, levels. -/
import Derived.Test.YtbbcnagognimlaaGreatRfM
set_option linter.unusedVariables false
set_option linter.unusedSimpArgs false
namespace Go.Proofs.YtbbcnagognimlaaGreat.Tr
open Go.Proofs.YtbbcnagognimlaaGreat.Tp Go.Proofs.YtbbcnagognimlaaGreat.Cl Go.Proofs.YtbbcnagognimlaaGreat.So
variable {l : List Cls}

theorem sort_ids (i : Int) : i ∈ ids (sortC l) ↔ i ∈ ids l := by
  unfold ids
  simp only [List.mem_map, sort_mem]
theorem some_leaf (R : Tp.Tree l) : 1 ≤ (leavesS l).length := by
  have key : ∀ (d : Nat) (i : Int), Deep l d i → i ∈ ids l → ∃ j ∈ ids l, (kids l j).length = 0 := by
    intro d
    induction d with
    | zero => intro i h; exact h.elim
    | succ d ih =>
      intro i h hi
      by_cases h0 : (kids l i).length = 0
      · exact ⟨i, hi, h0⟩
      · obtain ⟨c, hc⟩ : ∃ c, c ∈ kids l i := List.exists_mem_of_length_pos (by omega)
        exact ih c (h c hc) (kids_ids hc)
  obtain ⟨j, hj, h0⟩ := key 64 _ (root_deep64 R.good R.root R.le) (root_mem R.root)
  have : j ∈ leavesS l := List.mem_filter.2 ⟨(sort_ids j).2 hj, by simpa using h0⟩
  exact List.length_pos_of_mem this
end Go.Proofs.YtbbcnagognimlaaGreat.Tr
