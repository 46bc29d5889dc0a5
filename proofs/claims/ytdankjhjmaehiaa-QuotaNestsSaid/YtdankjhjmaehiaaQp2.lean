/- Quotas, told plainly: what classes have, what is spare; leaves have no more together than the root. -/
import Derived.Test.YtdankjhjmaehiaaTp6
import Derived.Test.YtdankjhjmaehiaaClM
namespace Go.Proofs.Ytdankjhjmaehiaa.Qu
open Go.Proofs.Ytdankjhjmaehiaa.Fl Go.Proofs.Ytdankjhjmaehiaa.Tp Go.Proofs.Ytdankjhjmaehiaa.Tr Go.Proofs.Ytdankjhjmaehiaa.Cl Go.Proofs.Ytdankjhjmaehiaa.So
variable {l : List Cls}

/-- a class's units -/
def uOf (c : Cls) : Nat := (unitsS c.share).1
def uAt (l : List Cls) (id : Int) : Nat := ((at? l id).map uOf).getD 0
/-- what is left of a class's units when its children have theirs -/
def spareS (l : List Cls) (id : Int) : Int := (uAt l id : Int) - (((kids l id).map (uAt l)).sum : Nat)
/-- is nothing given twice? -/
def quotaB (l : List Cls) : Bool := (ids l).all (fun i => decide (0 ≤ spareS l i))
theorem uAt_some {id : Int} {c : Cls} (h : at? l id = some c) : uAt l id = uOf c := by unfold uAt; rw [h]; rfl
theorem uAt_none {id : Int} (h : at? l id = none) : uAt l id = 0 := by unfold uAt; rw [h]; rfl
theorem uOf_le (c : Cls) (h : c.share < 18446744073709551616) : uOf c ≤ 1048576 := by
  unfold uOf unitsS
  split
  · simp
  · split
    · simp
    · rename_i h1 h2
      simp only [Bool.or_eq_true, not_or] at h2
      have hn : nan c.share = false := by simpa using h1
      rcases in_bounds h hn (by simpa using h2.1) (by simpa using h2.2) with h | h
      · have hm : c.share % 9223372036854775808 = c.share := by have : one = 4607182418800017408 := rfl; omega
        show rhe _ ≤ _
        rw [hm]; exact rhe_le (small_mag h)
      · show rhe _ ≤ _
        rw [h, show 9223372036854775808 % 9223372036854775808 = 0 from rfl, mag_zero, Nat.zero_mul, rhe_zero]; omega
theorem uOf_pos (c : Cls) (h : rightS c = 0) : 1 ≤ uOf c := by
  unfold rightS at h
  split at h
  · cases h
  · split at h
    · cases h
    · split at h
      · rename_i h1; exact absurd h h1
      · rename_i h1
        have h2 : fairS c.share = 0 := by omega
        unfold fairS at h2
        split at h2
        · cases h2
        · split at h2
          · cases h2
          · rename_i h3
            unfold uOf
            omega
theorem perm_sort (G : Tp.Good l) : (sortC l).Perm l := by
  have h1 : l.Nodup := List.Pairwise.of_map Cls.id (fun a b hab => fun e => hab (congrArg Cls.id e)) G.nodup
  have h2 : (sortC l).Nodup := List.Pairwise.of_map Cls.id (fun a b hab => fun e => hab (congrArg Cls.id e)) (sort_good G).nodup
  exact (List.perm_ext_iff_of_nodup h2 h1).2 (fun c => sort_mem)
/-- the document's way: all classes, one by one -/
def kidP (l : List Cls) (id : Int) (k : Nat) : Nat := (((l.take k).filter (fun c => decide (c.parent = id ∧ id ≠ 0))).map uOf).sum
theorem kidP_all (G : Tp.Good l) (id : Int) : kidP l id l.length = ((kids l id).map (uAt l)).sum := by
  unfold kidP kids
  rw [List.take_length, List.map_map]
  have e : (((sortC l).filter (fun c => decide (c.parent = id ∧ id ≠ 0))).map (uAt l ∘ Cls.id)) = ((sortC l).filter (fun c => decide (c.parent = id ∧ id ≠ 0))).map uOf := by
    refine List.map_congr_left fun c hc => ?_
    exact uAt_some (at_is G (sort_mem.1 (List.mem_filter.1 hc).1))
  rw [e]
  exact (((perm_sort G).filter _).map uOf).sum_nat.symm
theorem kidP_in {id : Int} {k : Nat} {x : Cls} (h : l[k]? = some x) (hp : x.parent = id) (h0 : id ≠ 0) : kidP l id (k + 1) = kidP l id k + uOf x := by
  unfold kidP; rw [List.take_add_one, h, List.filter_append, List.map_append, List.sum_append]; simp [hp, h0]
theorem kidP_out {id : Int} {k : Nat} {x : Cls} (h : l[k]? = some x) (hp : x.parent ≠ id ∨ id = 0) : kidP l id (k + 1) = kidP l id k := by
  unfold kidP; rw [List.take_add_one, h, List.filter_append, List.map_append, List.sum_append]
  have : ((Option.toList (some x)).filter (fun c => decide (c.parent = id ∧ id ≠ 0))) = [] := by
    simp; rintro rfl; rcases hp with h | h
    · exact absurd rfl h
    · exact h
  rw [this]; simp
theorem sum_le {α : Type} (f : α → Nat) (m : Nat) : ∀ (zs : List α), (∀ z ∈ zs, f z ≤ m) → (zs.map f).sum ≤ zs.length * m
  | [], _ => by simp
  | z :: zs, h => by
    have h1 := h z (by simp)
    have h2 := sum_le f m zs (fun y hy => h y (by simp [hy]))
    simp only [List.map_cons, List.sum_cons, List.length_cons, Nat.add_mul]
    omega
theorem sum_mono {α : Type} (f g : α → Nat) : ∀ (zs : List α), (∀ z ∈ zs, f z ≤ g z) → (zs.map f).sum ≤ (zs.map g).sum
  | [], _ => by simp
  | z :: zs, h => by
    have h1 := h z (by simp)
    have h2 := sum_mono f g zs (fun y hy => h y (by simp [hy]))
    simp only [List.map_cons, List.sum_cons]
    omega
theorem kidP_le (hs : ∀ c ∈ l, c.share < 18446744073709551616) (id : Int) (k : Nat) : kidP l id k ≤ l.length * 1048576 := by
  unfold kidP
  have h1 := sum_le uOf 1048576 ((l.take k).filter (fun c => decide (c.parent = id ∧ id ≠ 0))) (fun c hc => uOf_le c (hs c (List.mem_of_mem_take (List.mem_filter.1 hc).1)))
  have h2 : ((l.take k).filter (fun c => decide (c.parent = id ∧ id ≠ 0))).length ≤ l.length := Nat.le_trans (List.length_filter_le _ _) (List.length_take_le' _ _)
  exact Nat.le_trans h1 (Nat.mul_le_mul_right _ h2)
/-- leaves below, by their units -/
def lf (l : List Cls) (zs : List Int) : Nat := ((zs.filter (fun i => decide ((kids l i).length = 0))).map (uAt l)).sum
theorem lf_cons (i : Int) (zs : List Int) : lf l (i :: zs) = (if (kids l i).length = 0 then uAt l i else 0) + lf l zs := by
  unfold lf
  rw [List.filter_cons]
  split
  · rename_i h; rw [if_pos (of_decide_eq_true h)]; simp
  · rename_i h; rw [if_neg (fun e => h (decide_eq_true e))]; simp
theorem lf_app (a b : List Int) : lf l (a ++ b) = lf l a + lf l b := by unfold lf; rw [List.filter_append, List.map_append, List.sum_append]
theorem lf_flat (f : Int → List Int) : ∀ (zs : List Int), lf l (zs.flatMap f) = (zs.map (fun z => lf l (f z))).sum
  | [] => rfl
  | z :: zs => by rw [List.flatMap_cons, lf_app, lf_flat f zs]; rfl
theorem desc_lf (hq : ∀ i ∈ ids l, 0 ≤ spareS l i) : ∀ (d : Nat) (id : Int), id ∈ ids l → lf l (desc l d id) ≤ uAt l id
  | 0, _, _ => Nat.zero_le _
  | d + 1, id, hi => by
    show lf l (id :: (kids l id).flatMap (desc l d)) ≤ _
    rw [lf_cons, lf_flat]
    have h1 : ((kids l id).map (fun z => lf l (desc l d z))).sum ≤ ((kids l id).map (uAt l)).sum := sum_mono _ _ _ (fun z hz => desc_lf hq d z (kids_ids hz))
    have h2 := hq id hi
    unfold spareS at h2
    by_cases h0 : (kids l id).length = 0
    · rw [if_pos h0, List.length_eq_zero_iff.1 h0]; simp
    · rw [if_neg h0]; omega
theorem sum_sub (f : Int → Nat) : ∀ (zs ys : List Int), zs.Nodup → (∀ z ∈ zs, z ∈ ys) → (zs.map f).sum ≤ (ys.map f).sum
  | [], _, _, _ => by simp
  | z :: zs, ys, hn, h => by
    obtain ⟨p, t, e⟩ := List.append_of_mem (h z (by simp))
    have hn2 := List.nodup_cons.1 hn
    have h2 := sum_sub f zs (p ++ t) hn2.2 (fun y hy => by
      have := h y (by simp [hy])
      rw [e] at this
      rcases List.mem_append.1 this with h3 | h3
      · exact List.mem_append_left _ h3
      · rcases List.mem_cons.1 h3 with rfl | h4
        · exact absurd hy hn2.1
        · exact List.mem_append_right _ h4)
    rw [e]
    simp only [List.map_append, List.map_cons, List.sum_append, List.sum_cons] at h2 ⊢
    omega
theorem leaves_sum (R : Tp.Tree l) (hq : ∀ i ∈ ids l, 0 ≤ spareS l i) : ((leavesS l).map (uAt l)).sum ≤ uAt l (rootS l) := by
  refine Nat.le_trans ?_ (desc_lf hq 64 (rootS l) (root_mem R.root))
  unfold lf
  refine sum_sub (uAt l) _ _ ?_ ?_
  · exact List.Pairwise.filter _ (sort_good R.good).nodup
  · intro i hi
    have h := List.mem_filter.1 hi
    exact List.mem_filter.2 ⟨R.all i ((sort_ids i).1 h.1), h.2⟩
theorem quota_all (h : quotaB l = true) : ∀ i ∈ ids l, 0 ≤ spareS l i := fun i hi => of_decide_eq_true (List.all_eq_true.1 h i hi)
theorem uAt_pos (R : Tp.Tree l) {i : Int} (h : i ∈ ids l) : 1 ≤ uAt l i := by
  obtain ⟨c, hc⟩ := at_of_mem h
  rw [uAt_some hc]
  exact uOf_pos c (R.right c (at_mem hc).1)
theorem uAt_le (hs : ∀ c ∈ l, c.share < 18446744073709551616) (i : Int) : uAt l i ≤ 1048576 := by
  cases h : at? l i with
  | none => rw [uAt_none h]; omega
  | some c => rw [uAt_some h]; exact uOf_le c (hs c (at_mem h).1)
theorem spare_le (l : List Cls) (i : Int) : spareS l i ≤ uAt l i := by unfold spareS; omega
/-- a child has no more than what it is below -/
theorem kid_le (hq : ∀ i ∈ ids l, 0 ≤ spareS l i) {i k : Int} (hi : i ∈ ids l) (hk : k ∈ kids l i) : uAt l k ≤ uAt l i := by
  have h := hq i hi
  unfold spareS at h
  obtain ⟨p, t, e⟩ := List.append_of_mem hk
  rw [e] at h
  simp only [List.map_append, List.map_cons, List.sum_append, List.sum_cons] at h
  omega
end Go.Proofs.Ytdankjhjmaehiaa.Qu
