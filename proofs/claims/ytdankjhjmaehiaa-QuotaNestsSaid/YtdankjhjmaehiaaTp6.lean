/- Counts in a hierarchy: children, leaves, levels. -/
import Derived.Test.YtdankjhjmaehiaaRfM
namespace Go.Proofs.Ytdankjhjmaehiaa.Tr
open Go.Proofs.Ytdankjhjmaehiaa.Tp Go.Proofs.Ytdankjhjmaehiaa.Cl Go.Proofs.Ytdankjhjmaehiaa.So
variable {l : List Cls}

/-- how many children the first k have -/
def metS (l : List Cls) (k : Nat) : Nat := (((ids (sortC l)).take k).map (fun i => (kids l i).length)).sum
theorem metS_zero : metS l 0 = 0 := rfl
theorem metS_succ {k : Nat} {i : Int} (h : (ids (sortC l))[k]? = some i) : metS l (k + 1) = metS l k + (kids l i).length := by
  unfold metS; rw [List.take_add_one, h, List.map_append, List.sum_append]; simp
theorem count_swap : ∀ (is : List Int) (s : List Cls), is.Nodup → (is.map (fun i => (s.filter (fun c => decide (c.parent = i ∧ i ≠ 0))).length)).sum = (s.filter (fun c => decide (c.parent ∈ is ∧ c.parent ≠ 0))).length
  | [], s, _ => by
    have : s.filter (fun c => decide (c.parent ∈ ([] : List Int) ∧ c.parent ≠ 0)) = [] := List.filter_eq_nil_iff.2 (fun c _ => by simp)
    rw [this]; rfl
  | i :: is, s, h => by
    have h' := List.nodup_cons.1 h
    rw [List.map_cons, List.sum_cons, count_swap is s h'.2]
    clear h
    induction s with
    | nil => rfl
    | cons c s ih =>
      by_cases h1 : c.parent = i
      · by_cases h0 : i = 0
        · have e1 : decide (c.parent = i ∧ i ≠ 0) = false := by simp [h0]
          have e2 : decide (c.parent ∈ is ∧ c.parent ≠ 0) = false := by simp [h1, h0]
          have e3 : decide (c.parent ∈ i :: is ∧ c.parent ≠ 0) = false := by simp [h1, h0]
          rw [List.filter_cons_of_neg (by simpa using e1), List.filter_cons_of_neg (by simpa using e2), List.filter_cons_of_neg (by simpa using e3)]
          exact ih
        · have hn : c.parent ∉ is := by rw [h1]; exact h'.1
          rw [List.filter_cons_of_pos (by simp [h1, h0]), List.filter_cons_of_neg (by simp [hn]), List.filter_cons_of_pos (by simp [h1, h0]), List.length_cons, List.length_cons, ← ih]
          omega
      · by_cases h2 : c.parent ∈ is ∧ c.parent ≠ 0
        · rw [List.filter_cons_of_neg (by simp [h1]), List.filter_cons_of_pos (by simpa using h2), List.filter_cons_of_pos (by simp [h2]), List.length_cons, List.length_cons, ← ih]
          omega
        · have h3 : ¬ (c.parent ∈ i :: is ∧ c.parent ≠ 0) := fun h => h2 ⟨(List.mem_cons.1 h.1).resolve_left h1, h.2⟩
          rw [List.filter_cons_of_neg (by simp [h1]), List.filter_cons_of_neg (by simpa using h2), List.filter_cons_of_neg (by simpa using h3)]
          exact ih
theorem nodup_of_counts : ∀ {l : List Cls}, (∀ k, (l.filter (fun x => x.id == k)).length ≤ 1) → (ids l).Nodup
  | [], _ => List.nodup_nil
  | x :: l, h => by
    refine List.nodup_cons.2 ⟨fun hm => ?_, nodup_of_counts fun k => ?_⟩
    · obtain ⟨c, hc, e⟩ := List.mem_map.1 hm
      have h1 := h x.id
      rw [List.filter_cons_of_pos (by simp), List.length_cons] at h1
      have h2 : c ∈ l.filter (fun y => y.id == x.id) := List.mem_filter.2 ⟨hc, by simpa using e⟩
      have := List.length_pos_of_mem h2
      omega
    · have h1 := h k
      by_cases e : (x.id == k) = true
      · rw [List.filter_cons_of_pos (by simpa using e), List.length_cons] at h1; omega
      · rw [List.filter_cons_of_neg (by simpa using e)] at h1; exact h1
theorem counts_of_nodup {l : List Cls} (h : (ids l).Nodup) (k : Int) : (l.filter (fun x => x.id == k)).length ≤ 1 := by
  have hn := nodup_filter (p := fun x => x.id == k) h
  have hall : ∀ c ∈ l.filter (fun x => x.id == k), c.id = k := fun c hc => by simpa using (List.mem_filter.1 hc).2
  generalize l.filter (fun x => x.id == k) = m at *
  match m with
  | [] => simp
  | [x] => simp
  | x :: y :: m =>
    exfalso
    have h1 := hall x (by simp); have h2 := hall y (by simp)
    have h3 : x.id ∉ ids (y :: m) := (List.nodup_cons.1 hn).1
    exact h3 (List.mem_map.2 ⟨y, by simp, h2.trans h1.symm⟩)
theorem sort_good (G : Tp.Good l) : Tp.Good (sortC l) where
  pos c hc := G.pos c (sort_mem.1 hc)
  nodup := nodup_of_counts fun k => by rw [← (sortC_ok l).2.flt k]; exact counts_of_nodup G.nodup k
theorem sort_ids (i : Int) : i ∈ ids (sortC l) ↔ i ∈ ids l := by
  unfold ids
  simp only [List.mem_map, sort_mem]
theorem sort_root {r : Int} (R : Tp.Root l r) : Tp.Root (sortC l) r := by
  obtain ⟨c, hc, he⟩ := R.root
  exact ⟨⟨c, sort_mem.2 hc, he⟩, fun c hc => R.one c (sort_mem.1 hc), fun c hc h0 => (sort_ids _).2 (R.par c (sort_mem.1 hc) h0)⟩
theorem met_all (R : Tp.Tree l) : metS l (sortC l).length = l.length - 1 := by
  have hg := sort_good R.good
  have hr := sort_root R.root
  have h1 := nroot_one hg hr
  unfold nroot at h1
  rw [List.take_length] at h1
  have hsw := count_swap (ids (sortC l)) (sortC l) hg.nodup
  have hm : metS l (sortC l).length = ((sortC l).filter (fun c => decide (c.parent ∈ ids (sortC l) ∧ c.parent ≠ 0))).length := by
    rw [← hsw]
    unfold metS
    have hil : (ids (sortC l)).length = (sortC l).length := List.length_map ..
    rw [← hil, List.take_length]
    congr 1
    refine List.map_congr_left fun i _ => ?_
    unfold kids
    rw [List.length_map]
  rw [hm]
  have hf : (sortC l).filter (fun c => decide (c.parent ∈ ids (sortC l) ∧ c.parent ≠ 0)) = (sortC l).filter (fun c => !(c.parent == 0)) := List.filter_congr fun c hc => by
    by_cases h0 : c.parent = 0
    · simp [h0]
    · simp [h0, hr.par c hc h0]
  rw [hf]
  have hlen := sortC_len l
  have hsum : ∀ (s : List Cls), (s.filter (fun c => c.parent == 0)).length + (s.filter (fun c => !(c.parent == 0))).length = s.length := by
    intro s
    induction s with
    | nil => rfl
    | cons c s ih =>
      by_cases h0 : (c.parent == 0) = true
      · rw [List.filter_cons_of_pos (by simpa using h0), List.filter_cons_of_neg (by simp [h0]), List.length_cons, List.length_cons]; omega
      · have h0' : (c.parent == 0) = false := by simpa using h0
        rw [List.filter_cons_of_neg (by simpa using h0), List.filter_cons_of_pos (by simp [h0']), List.length_cons, List.length_cons]; omega
  have := hsum (sortC l)
  omega
theorem met_le (R : Tp.Tree l) (k : Nat) (hk : k ≤ (sortC l).length) : metS l k ≤ 4096 := by
  have hb : ∀ (is : List Int), (is.map (fun i => (kids l i).length)).sum ≤ 64 * is.length := by
    intro is
    induction is with
    | nil => simp
    | cons i is ih => rw [List.map_cons, List.sum_cons, List.length_cons]; have := kids_len l i; have := R.le; omega
  unfold metS
  have h1 := hb ((ids (sortC l)).take k)
  rw [List.length_take] at h1
  have := sortC_len l
  have := R.le
  omega
/-- a level is above those of the children; 1 just where there are none -/
theorem level_pos (R : Tp.Tree l) {i : Int} (hi : i ∈ ids l) : 1 ≤ level l i := by
  rw [level_eq64 (R.deep hi)]
  have := (most_bd (l := l) (kids l i)).1
  omega
theorem fold_mem {f : Int → Int} : ∀ (ks : List Int) (n : Int) (c : Int), c ∈ ks → f c ≤ ks.foldl (fun n c => max n (f c)) n
  | k :: ks, n, c, h => by
    rw [List.foldl_cons]
    rcases List.mem_cons.1 h with rfl | h
    · exact Int.le_trans (by omega) (fold_max_ge ks f _)
    · exact fold_mem ks _ c h
theorem level_kid (R : Tp.Tree l) {i c : Int} (hi : i ∈ ids l) (hc : c ∈ kids l i) : level l c < level l i := by
  rw [level_eq64 (R.deep hi)]
  have : level l c ≤ most l (kids l i) := fold_mem (f := level l) (kids l i) 0 c hc
  omega
theorem leaf_level (R : Tp.Tree l) {i : Int} (hi : i ∈ ids l) : leafB l i = (level l i == 1) := by
  obtain ⟨x, hx⟩ := at_of_mem hi
  have e : leafB l i = decide ((kids l i).length = 0) := by unfold leafB; rw [hx]; rfl
  rw [e]
  by_cases h0 : (kids l i).length = 0
  · have : level l i = 1 := by rw [level_eq64 (R.deep hi), List.length_eq_zero_iff.1 h0]; rfl
    rw [this]; simp [h0]
  · obtain ⟨c, hc⟩ : ∃ c, c ∈ kids l i := List.exists_mem_of_length_pos (by omega)
    have h1 := level_kid R hi hc
    have h2 := level_pos R (kids_ids hc)
    have h3 : (level l i == 1) = false := by rw [beq_eq_false_iff_ne]; omega
    rw [h3]; simpa using h0
theorem some_leaf (R : Tp.Tree l) : 1 ≤ (leavesS l).length := by
  have key : ∀ (d : Nat) (i : Int), Deep l d i → i ∈ ids l → ∃ j ∈ ids l, (kids l j).length = 0 := by
    intro d
    induction d with
    | zero => intro i h; exact h.elim
    | succ d ih =>
      intro i h hi
      by_cases h0 : (kids l i).length = 0
      · exact ⟨i, hi, h0⟩
      · obtain ⟨c, hc⟩ : ∃ c, c ∈ kids l i := List.exists_mem_of_length_pos (by omega)
        exact ih c (h c hc) (kids_ids hc)
  obtain ⟨j, hj, h0⟩ := key 64 _ (root_deep64 R.good R.root R.le) (root_mem R.root)
  have : j ∈ leavesS l := List.mem_filter.2 ⟨(sort_ids j).2 hj, by simpa using h0⟩
  exact List.length_pos_of_mem this
theorem kid_at (R : Tp.Tree l) {i c : Int} (hc : c ∈ kids l i) : ∃ x, at? l c = some x ∧ x.parent = i ∧ c ≠ rootS l := by
  obtain ⟨h0, x, hx, rfl, hp⟩ := kids_mem.1 hc
  refine ⟨x, at_is R.good hx, hp, fun e => ?_⟩
  obtain ⟨r, hr, hre, hrp⟩ := R.root.root
  have := nodup_inj R.good.nodup hx hr (e.trans hre.symm)
  subst this
  exact h0 (hp.symm.trans hrp)
end Go.Proofs.Ytdankjhjmaehiaa.Tr
