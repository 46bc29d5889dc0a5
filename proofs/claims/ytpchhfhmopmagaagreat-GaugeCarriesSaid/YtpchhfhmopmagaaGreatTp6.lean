/- Counts in a hierarchy: children, leaves, levels. -/
import Derived.Test.YtpchhfhmopmagaaGreatRfM
set_option linter.unusedVariables false
set_option linter.unusedSimpArgs false
namespace Go.Proofs.YtpchhfhmopmagaaGreat.Tr
open Go.Proofs.YtpchhfhmopmagaaGreat.Tp Go.Proofs.YtpchhfhmopmagaaGreat.Cl Go.Proofs.YtpchhfhmopmagaaGreat.So
variable {l : List Cls}

theorem nodup_of_counts : ∀ {l : List Cls}, (∀ k, (l.filter (fun x => x.id == k)).length ≤ 1) → (ids l).Nodup
  | [], _ => List.nodup_nil
  | x :: l, h => by
    refine List.nodup_cons.2 ⟨fun hm => ?_, nodup_of_counts fun k => ?_⟩
    · obtain ⟨c, hc, e⟩ := List.mem_map.1 hm
      have h1 := h x.id
      rw [List.filter_cons_of_pos (by simp), List.length_cons] at h1
      have h2 : c ∈ l.filter (fun y => y.id == x.id) := List.mem_filter.2 ⟨hc, by simpa using e⟩
      have := List.length_pos_of_mem h2
      omega
    · have h1 := h k
      by_cases e : (x.id == k) = true
      · rw [List.filter_cons_of_pos (by simpa using e), List.length_cons] at h1; omega
      · rw [List.filter_cons_of_neg (by simpa using e)] at h1; exact h1
theorem counts_of_nodup {l : List Cls} (h : (ids l).Nodup) (k : Int) : (l.filter (fun x => x.id == k)).length ≤ 1 := by
  have hn := nodup_filter (p := fun x => x.id == k) h
  have hall : ∀ c ∈ l.filter (fun x => x.id == k), c.id = k := fun c hc => by simpa using (List.mem_filter.1 hc).2
  generalize l.filter (fun x => x.id == k) = m at *
  match m with
  | [] => simp
  | [x] => simp
  | x :: y :: m =>
    exfalso
    have h1 := hall x (by simp); have h2 := hall y (by simp)
    have h3 : x.id ∉ ids (y :: m) := (List.nodup_cons.1 hn).1
    exact h3 (List.mem_map.2 ⟨y, by simp, h2.trans h1.symm⟩)
theorem sort_good (G : Tp.Good l) : Tp.Good (sortC l) where
  pos c hc := G.pos c (sort_mem.1 hc)
  nodup := nodup_of_counts fun k => by rw [← (sortC_ok l).2.flt k]; exact counts_of_nodup G.nodup k
theorem sort_ids (i : Int) : i ∈ ids (sortC l) ↔ i ∈ ids l := by
  unfold ids
  simp only [List.mem_map, sort_mem]
theorem some_leaf (R : Tp.Tree l) : 1 ≤ (leavesS l).length := by
  have key : ∀ (d : Nat) (i : Int), Deep l d i → i ∈ ids l → ∃ j ∈ ids l, (kids l j).length = 0 := by
    intro d
    induction d with
    | zero => intro i h; exact h.elim
    | succ d ih =>
      intro i h hi
      by_cases h0 : (kids l i).length = 0
      · exact ⟨i, hi, h0⟩
      · obtain ⟨c, hc⟩ : ∃ c, c ∈ kids l i := List.exists_mem_of_length_pos (by omega)
        exact ih c (h c hc) (kids_ids hc)
  obtain ⟨j, hj, h0⟩ := key 64 _ (root_deep64 R.good R.root R.le) (root_mem R.root)
  have : j ∈ leavesS l := List.mem_filter.2 ⟨(sort_ids j).2 hj, by simpa using h0⟩
  exact List.length_pos_of_mem this
end Go.Proofs.YtpchhfhmopmagaaGreat.Tr
