/- What is wrong with classes, told plainly. -/
import Derived.Test.YtdoemgccmjddcaaTp2
namespace Go.Proofs.Ytdoemgccmjddcaa.Tp
open Go.Proofs.Ytdoemgccmjddcaa.Cl Go.Proofs.Ytdoemgccmjddcaa.So
variable {l : List Cls}

theorem find_neg {zs : List Cls} {id : Int} : findC zs id < 0 ↔ id ∉ ids zs := by
  unfold findC ids
  cases h : zs.findIdx? (fun x => x.id == id) with
  | none =>
    rw [List.findIdx?_eq_none_iff] at h
    simp only [List.mem_map, not_exists, not_and]
    exact ⟨fun _ c hc e => by have := h c hc; simp [e] at this, fun _ => by omega⟩
  | some i =>
    obtain ⟨hi, hp, _⟩ := List.findIdx?_eq_some_iff_getElem.1 h
    simp only [List.mem_map, not_exists, not_and]
    exact ⟨fun h => by omega, fun h => absurd (by simpa using hp) (h _ (List.getElem_mem hi))⟩
theorem find_cases (zs : List Cls) (id : Int) : (findC zs id = -1 ∧ id ∉ ids zs) ∨ ∃ (i : Nat) (c : Cls), findC zs id = i ∧ zs[i]? = some c ∧ c.id = id ∧ ∀ (j : Nat) (d : Cls), j < i → zs[j]? = some d → d.id ≠ id := by
  unfold findC
  cases h : zs.findIdx? (fun x => x.id == id) with
  | none =>
    refine .inl ⟨rfl, ?_⟩
    rw [List.findIdx?_eq_none_iff] at h
    unfold ids
    simp only [List.mem_map, not_exists, not_and]
    exact fun c hc e => by have := h c hc; simp [e] at this
  | some i =>
    obtain ⟨hi, hp, hm⟩ := List.findIdx?_eq_some_iff_getElem.1 h
    refine .inr ⟨i, zs[i], rfl, List.getElem?_eq_getElem hi, by simpa using hp, fun j d hj hd => ?_⟩
    have := hm j hj
    obtain ⟨hjl, rfl⟩ := List.getElem?_eq_some_iff.1 hd
    simpa using this
theorem find_at {zs : List Cls} {id : Int} : (findC zs id < 0 ∧ at? zs id = none) ∨ ∃ (i : Nat) (c : Cls), findC zs id = i ∧ zs[i]? = some c ∧ at? zs id = some c := by
  rcases find_cases zs id with ⟨h, hn⟩ | ⟨i, c, h, hc, he, hm⟩
  · exact .inl ⟨by omega, at_none.2 hn⟩
  · refine .inr ⟨i, c, h, hc, ?_⟩
    unfold at?
    rw [List.find?_eq_some_iff_getElem]
    obtain ⟨hi, rfl⟩ := List.getElem?_eq_some_iff.1 hc
    refine ⟨by simpa using he, i, hi, rfl, fun j hj => ?_⟩
    have := hm j zs[j] hj (List.getElem?_eq_getElem (by omega))
    simpa using this
/-- what is wrong with the j-th class by itself and those ahead -/
def errAt (l : List Cls) (j : Nat) : Int := match l[j]? with
  | some c => if rightS c ≠ 0 then rightS c else if findC (l.take j) c.id < 0 then 0 else 9
  | none => 0
theorem errAt_is {k : Nat} {c : Cls} (hc : l[k]? = some c) (h : rightS c = 0) : errAt l k = if findC (l.take k) c.id < 0 then 0 else 9 := by
  unfold errAt; rw [hc]; simp only; rw [if_neg (by simpa using h)]
theorem errAt_bad {k : Nat} {c : Cls} (hc : l[k]? = some c) (h : rightS c ≠ 0) : errAt l k = rightS c := by
  unfold errAt; rw [hc]; simp only; rw [if_pos h]
def scan (l : List Cls) : Nat → Int
  | 0 => 0
  | k + 1 => if scan l k ≠ 0 then scan l k else errAt l k
theorem scan_succ {k : Nat} (h : scan l k = 0) : scan l (k + 1) = errAt l k := by unfold scan; rw [if_neg (by simpa using h)]
theorem scan_hit {k : Nat} (h : scan l k = 0) (he : errAt l k ≠ 0) : ∀ n, k < n → scan l n = errAt l k
  | 0, hn => by omega
  | n + 1, hn => by
    by_cases hk : k = n
    · subst hk; exact scan_succ h
    · have ih := scan_hit h he n (by omega)
      unfold scan
      rw [ih, if_pos he]
theorem scan_zero : ∀ {n : Nat}, scan l n = 0 → ∀ j, j < n → errAt l j = 0
  | 0, _, j, hj => by omega
  | n + 1, h, j, hj => by
    by_cases h0 : scan l n = 0
    · rw [scan_succ h0] at h
      by_cases hjn : j = n
      · subst hjn; exact h
      · exact scan_zero h0 j (by omega)
    · unfold scan at h
      rw [if_pos h0] at h
      exact absurd h h0
theorem right_pos {c : Cls} (h : rightS c = 0) : 1 ≤ c.id ∧ c.id ≤ 65535 ∧ 0 ≤ c.parent ∧ c.parent ≤ 65535 := by
  unfold rightS at h
  split at h
  · cases h
  · omega
theorem errAt_zero {j : Nat} {c : Cls} (hc : l[j]? = some c) (h : errAt l j = 0) : rightS c = 0 ∧ findC (l.take j) c.id < 0 := by
  unfold errAt at h
  rw [hc] at h
  simp only at h
  split at h
  · rename_i h1; exact absurd h h1
  · rename_i h1
    split at h
    · rename_i h2; exact ⟨by simpa using h1, h2⟩
    · cases h
theorem nodup_take : ∀ (l : List Cls), (∀ (j : Nat) (c : Cls), l[j]? = some c → c.id ∉ ids (l.take j)) → (ids l).Nodup := by
  intro l h
  refine List.pairwise_iff_getElem.2 fun i j hi hj hij e => ?_
  unfold ids at hi hj e
  rw [List.length_map] at hi hj
  rw [List.getElem_map, List.getElem_map] at e
  refine h j l[j] (List.getElem?_eq_getElem hj) ?_
  unfold ids
  refine List.mem_map.2 ⟨l[i], ?_, e⟩
  exact List.mem_iff_getElem?.2 ⟨i, by rw [List.getElem?_take_of_lt hij]; exact List.getElem?_eq_getElem hi⟩
theorem good_of {l : List Cls} (h : scan l l.length = 0) : Good l where
  pos c hc := by
    obtain ⟨j, hj⟩ := List.mem_iff_getElem?.1 hc
    exact right_pos (errAt_zero hj (scan_zero h j (List.getElem?_eq_some_iff.1 hj).1)).1
  nodup := nodup_take l fun j c hj => find_neg.1 (errAt_zero hj (scan_zero h j (List.getElem?_eq_some_iff.1 hj).1)).2
theorem right_of {l : List Cls} (h : scan l l.length = 0) : ∀ c ∈ l, rightS c = 0 := fun c hc => by
  obtain ⟨j, hj⟩ := List.mem_iff_getElem?.1 hc
  exact (errAt_zero hj (scan_zero h j (List.getElem?_eq_some_iff.1 hj).1)).1
/-- the first class without a parent -/
def rootS (l : List Cls) : Int := match l.find? (fun c => c.parent == 0) with
  | some c => c.id
  | none => 0
theorem root_is {r : Int} (R : Root l r) : rootS l = r := by
  obtain ⟨c, hc, _, hp⟩ := R.root
  unfold rootS
  cases h : l.find? (fun c => c.parent == 0) with
  | none => rw [List.find?_eq_none] at h; exact absurd (by simpa using hp) (h c hc)
  | some d => exact R.one d (List.mem_of_find?_eq_some h) (by have := List.find?_some h; simpa using this)
open Classical in
/-- what is wrong with classes -/
noncomputable def chk (l : List Cls) : Int :=
  if l.length = 0 then 8 else if 64 < l.length then 3 else if scan l l.length ≠ 0 then scan l l.length
  else if ¬ Root l (rootS l) then 10 else if ¬ ∀ i ∈ ids l, i ∈ desc l 64 (rootS l) then 11 else if 8 < level l (rootS l) then 12 else 0
/-- classes that are a tree -/
structure Tree (l : List Cls) : Prop where
  ne : 0 < l.length
  le : l.length ≤ 64
  good : Good l
  right : ∀ c ∈ l, rightS c = 0
  root : Root l (rootS l)
  all : ∀ i ∈ ids l, i ∈ desc l 64 (rootS l)
  low : level l (rootS l) ≤ 8
theorem chk_tree (h : chk l = 0) : Tree l := by
  unfold chk at h
  split at h
  · cases h
  · rename_i h1
    split at h
    · cases h
    · rename_i h2
      split at h
      · rename_i h3; exact absurd h h3
      · rename_i h3
        have h3 : scan l l.length = 0 := by simpa using h3
        split at h
        · cases h
        · rename_i h4
          split at h
          · cases h
          · rename_i h5
            split at h
            · cases h
            · rename_i h6
              exact ⟨by omega, by omega, good_of h3, right_of h3, Classical.not_not.1 h4, Classical.not_not.1 h5, by omega⟩
theorem Tree.deep (h : Tree l) {i : Int} (hi : i ∈ ids l) : Deep l 64 i := desc_deep 64 _ i (root_deep64 h.good h.root h.le) (h.all i hi)
end Go.Proofs.Ytdoemgccmjddcaa.Tp
