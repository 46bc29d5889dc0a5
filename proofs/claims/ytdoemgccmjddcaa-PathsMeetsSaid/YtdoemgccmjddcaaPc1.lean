/- Ways up: one's way holds the ways of all above; two ways meet alike from either side; all ways end at the root. -/
import Derived.Test.YtdoemgccmjddcaaPb2
namespace Go.Proofs.Ytdoemgccmjddcaa.Pa
open Go.Proofs.Ytdoemgccmjddcaa.Tp Go.Proofs.Ytdoemgccmjddcaa.Tr Go.Proofs.Ytdoemgccmjddcaa.Cl Go.Proofs.Ytdoemgccmjddcaa.So
variable {l : List Cls}

theorem wids_tail (F : Fit l) : ∀ (p : List Int) (a i : Int) (t : List Int), wids l a = p ++ i :: t → wids l i = i :: t
  | [], a, i, t, h => by
    cases ha : at? l a with
    | none => rw [wids_none ha] at h; cases h
    | some c =>
      have h2 := h
      rw [wids_some F ha] at h2
      injection h2 with e _
      subst e; exact h
  | x :: p, a, i, t, h => by
    cases ha : at? l a with
    | none => rw [wids_none ha] at h; cases h
    | some c =>
      rw [wids_some F ha] at h
      injection h with _ e
      exact wids_tail F p c.parent i t e
theorem mem_split {a : Int} {zs : List Int} (h : a ∈ zs) : ∃ p t, zs = p ++ a :: t := List.append_of_mem h
theorem wids_up (F : Fit l) {a b c : Int} (h1 : b ∈ wids l a) (h2 : c ∈ wids l b) : c ∈ wids l a := by
  obtain ⟨p, t, e⟩ := mem_split h1
  have := wids_tail F p a b t e
  rw [this] at h2
  rw [e]; exact List.mem_append_right _ h2
theorem under_trans (F : Fit l) {a b c : Int} (h1 : underS l a b = true) (h2 : underS l b c = true) : underS l a c = true :=
  decide_eq_true (wids_up F (of_decide_eq_true h1) (of_decide_eq_true h2))
theorem wids_self (F : Fit l) {a : Int} (h : a ∈ ids l) : a ∈ wids l a := by
  obtain ⟨c, hc⟩ := at_of_mem h
  rw [wids_some F hc]; simp
theorem find_split {ps qs : List Int} {m : Int} (h : ps.find? (fun i => decide (i ∈ qs)) = some m) : ∃ p t, ps = p ++ m :: t ∧ (∀ y ∈ p, y ∉ qs) ∧ m ∈ qs := by
  obtain ⟨h1, p, t, h2, h3⟩ := List.find?_eq_some_iff_append.1 h
  exact ⟨p, t, h2, fun y hy => by simpa using h3 y hy, by simpa using h1⟩
theorem find_eq {ps qs : List Int} {m : Int} {p t : List Int} (h : ps = p ++ m :: t) (hn : ∀ y ∈ p, y ∉ qs) (hm : m ∈ qs) : ps.find? (fun i => decide (i ∈ qs)) = some m :=
  List.find?_eq_some_iff_append.2 ⟨by simpa using hm, p, t, h, fun y hy => by simpa using hn y hy⟩
theorem meet_sym (F : Fit l) (a b : Int) : meetS l a b = meetS l b a := by
  show ((wids l a).find? (fun i => decide (i ∈ wids l b))).getD 0 = ((wids l b).find? (fun i => decide (i ∈ wids l a))).getD 0
  cases h : (wids l a).find? (fun i => decide (i ∈ wids l b)) with
  | none =>
    have h' : (wids l b).find? (fun i => decide (i ∈ wids l a)) = none := by
      rw [List.find?_eq_none] at h ⊢
      intro x hx hd
      exact h x (of_decide_eq_true hd) (decide_eq_true hx)
    rw [h']
  | some m =>
    obtain ⟨p, t, hp, hn, hm⟩ := find_split h
    obtain ⟨q, u, hq⟩ := mem_split hm
    have hmt := wids_tail F p a m t hp
    have hmu := wids_tail F q b m u hq
    have htu : t = u := by rw [hmt] at hmu; injection hmu
    subst htu
    rw [find_eq hq (fun y hy hya => ?_) (by rw [hp]; simp)]
    obtain ⟨q1, q2, e⟩ := mem_split hy
    have hyl := wids_tail F q1 b y (q2 ++ m :: t) (by rw [hq, e]; simp)
    rw [hp] at hya
    rcases List.mem_append.1 hya with h1 | h1
    · exact hn y h1 (by rw [hq]; exact List.mem_append_left _ hy)
    · rw [← hmt] at h1
      obtain ⟨r, s, hs⟩ := mem_split h1
      have hys := wids_tail F r m y s hs
      rw [hys] at hyl
      have l1 := congrArg List.length hs
      have l2 := congrArg List.length hyl
      rw [hmt] at l1
      simp at l1 l2
      omega
theorem root_above (R : Tp.Tree l) : ∀ (n : Nat) (a : Int), (wids l a).length ≤ n → a ∈ ids l → rootS l ∈ wids l a
  | 0, a, hn, ha => by
    obtain ⟨c, hc⟩ := at_of_mem ha
    rw [wids_some (.inr R) hc] at hn; simp at hn
  | n + 1, a, hn, ha => by
    obtain ⟨c, hc⟩ := at_of_mem ha
    obtain ⟨hm, hi⟩ := at_mem hc
    have hw := wids_some (.inr R) hc
    by_cases h0 : c.parent = 0
    · have := R.root.one c hm h0
      rw [hw, ← this, hi]; simp
    · have hp := R.root.par c hm h0
      have := root_above R n c.parent (by rw [hw] at hn; simp at hn; omega) hp
      rw [hw]; exact List.mem_cons_of_mem _ this
theorem under_root (R : Tp.Tree l) {a : Int} (h : a ∈ ids l) : underS l a (rootS l) = true := decide_eq_true (root_above R _ a (Nat.le_refl _) h)
theorem meet_under (R : Tp.Tree l) {a b : Int} (ha : a ∈ ids l) (hb : b ∈ ids l) : underS l a (meetS l a b) = true := by
  have h1 := root_above R _ a (Nat.le_refl _) ha
  have h2 := root_above R _ b (Nat.le_refl _) hb
  show decide (((wids l a).find? (fun i => decide (i ∈ wids l b))).getD 0 ∈ wids l a) = true
  cases h : (wids l a).find? (fun i => decide (i ∈ wids l b)) with
  | none => exact absurd (decide_eq_true h2) (List.find?_eq_none.1 h _ h1)
  | some m => exact decide_eq_true (List.mem_of_find?_eq_some h)
theorem below_root (R : Tp.Tree l) : belowS l (rootS l) = leavesS l := by
  unfold belowS
  exact List.filter_eq_self.2 fun i hi => under_root R (leaf_mem hi)
/-- the way goes from a class to its parent -/
theorem way_next (F : Fit l) : ∀ (k : Nat) (a : Int) (x : Ci l), (way l a)[k]? = some x → way l x.1.id = x :: way l x.1.parent ∧ (way l a).drop (k + 1) = way l x.1.parent
  | 0, a, x, h => by
    cases ha : at? l a with
    | none => rw [way_none ha] at h; cases h
    | some c =>
      have hc : at? l c.id = some c := by rw [(at_mem ha).2]; exact ha
      rw [way_some F ha hc] at h ⊢
      simp at h
      subst h
      exact ⟨way_some F hc hc, by simp⟩
  | k + 1, a, x, h => by
    cases ha : at? l a with
    | none => rw [way_none ha] at h; cases h
    | some c =>
      have hc : at? l c.id = some c := by rw [(at_mem ha).2]; exact ha
      rw [way_some F ha hc] at h ⊢
      simp at h
      have := way_next F k c.parent x h
      exact ⟨this.1, by simpa using this.2⟩
/-- who lends to whom, rank by rank -/
theorem lend_none (F : Fit l) {a : Int} {x : Cls} (h : at? l a = some x) (hg : (brw x && !(x.parent == 0)) = false) : lendS l a = [] := by
  have hc : at? l x.id = some x := by rw [(at_mem h).2]; exact h
  unfold lendS
  rw [way_some F h hc, List.takeWhile_cons]
  unfold goes
  rw [hg]; rfl
theorem lend_some (F : Fit l) {a : Int} {x : Cls} (h : at? l a = some x) (hg : (brw x && !(x.parent == 0)) = true) : lendS l a = x.parent :: lendS l x.parent := by
  have hc : at? l x.id = some x := by rw [(at_mem h).2]; exact h
  unfold lendS
  rw [way_some F h hc, List.takeWhile_cons]
  unfold goes
  rw [if_pos hg]; rfl
theorem lend_absent {a : Int} (h : at? l a = none) : lendS l a = [] := by unfold lendS; rw [way_none h]; rfl
theorem lend_len (l : List Cls) (id : Int) : (lendS l id).length ≤ 65 := by
  unfold lendS pars
  rw [List.length_map]
  exact Nat.le_trans (List.Sublist.length_le (List.takeWhile_sublist _)) (way_len id)
/-- the class whose parent the k-th lender is -/
def was (l : List Cls) (a : Int) : Nat → Int
  | 0 => a
  | k + 1 => ((lendS l a)[k]?).getD 0
theorem lend_at (F : Fit l) : ∀ (k : Nat) (a by_ : Int), (lendS l a)[k]? = some by_ → ∃ x, at? l (was l a k) = some x ∧ x.parent = by_ ∧ brw x = true
  | k, a, by_, h => by
    cases ha : at? l a with
    | none => rw [lend_absent ha] at h; cases h
    | some x =>
      cases hg : (brw x && !(x.parent == 0)) with
      | false => rw [lend_none F ha hg] at h; cases h
      | true =>
        rw [lend_some F ha hg] at h
        cases k with
        | zero =>
          simp at h
          exact ⟨x, ha, h, by cases hb : brw x <;> simp [hb] at hg ⊢⟩
        | succ k =>
          simp at h
          obtain ⟨y, h1, h2, h3⟩ := lend_at F k x.parent by_ h
          refine ⟨y, ?_, h2, h3⟩
          have : was l a (k + 1) = was l x.parent k := by
            unfold was
            rw [lend_some F ha hg]
            cases k <;> simp
          rw [this]; exact h1
end Go.Proofs.Ytdoemgccmjddcaa.Pa
