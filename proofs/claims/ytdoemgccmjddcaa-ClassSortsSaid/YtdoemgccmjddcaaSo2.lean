/- Segments of a row; what a rotation, a merge, an insertion sort do to them. -/
import Derived.Test.YtdoemgccmjddcaaSs2
import Derived.Test.YtdoemgccmjddcaaSo
namespace Go.Proofs.Ytdoemgccmjddcaa.So
open Go.Sort
variable {α : Type} [Inhabited α] {key : α → Int}

/-- the elements from a to b -/
def sg (d : Array α) (a b : Nat) : List α := (List.range (b - a)).map fun i => d[a + i]!
theorem sg_len (d : Array α) (a b : Nat) : (sg d a b).length = b - a := by simp [sg]
theorem sg_get (d : Array α) (a b i : Nat) (h : i < b - a) : (sg d a b)[i]? = some d[a + i]! := by simp [sg, h]
theorem sg_nil (d : Array α) (a b : Nat) (h : b ≤ a) : sg d a b = [] := by simp [sg, Nat.sub_eq_zero_of_le h]
theorem sg_one (d : Array α) (a : Nat) : sg d a (a + 1) = [d[a]!] := by simp [sg, List.range_one]
theorem sg_app (d : Array α) {a m b : Nat} (h1 : a ≤ m) (h2 : m ≤ b) : sg d a m ++ sg d m b = sg d a b := by
  unfold sg
  rw [show b - a = (m - a) + (b - m) by omega, List.range_add, List.map_append, List.map_map]
  congr 1
  refine List.map_congr_left fun i _ => ?_
  show d[m + i]! = d[a + (m - a + i)]!
  congr 1; omega
theorem sg_shift {d d' : Array α} {a b a' b' : Nat} (hl : b - a = b' - a') (h : ∀ i, i < b - a → d[a + i]! = d'[a' + i]!) : sg d a b = sg d' a' b' := by
  unfold sg
  rw [← hl]
  exact List.map_congr_left fun i hi => h i (List.mem_range.1 hi)
theorem sg_same {d d' : Array α} {a b : Nat} (h : ∀ j, a ≤ j → j < b → d[j]! = d'[j]!) : sg d a b = sg d' a b := sg_shift rfl fun i hi => h _ (by omega) (by omega)
theorem sg_mem {d : Array α} {a b : Nat} {x : α} : x ∈ sg d a b ↔ ∃ j, a ≤ j ∧ j < b ∧ d[j]! = x := by
  unfold sg
  simp only [List.mem_map, List.mem_range]
  constructor
  · rintro ⟨i, hi, rfl⟩; exact ⟨a + i, by omega, by omega, rfl⟩
  · rintro ⟨j, h1, h2, rfl⟩; exact ⟨j - a, by omega, by rw [show a + (j - a) = j by omega]⟩
theorem srt_sg {d : Array α} {a b : Nat} (h : ∀ i j, a ≤ i → i < j → j < b → key d[i]! ≤ key d[j]!) : Srt key (sg d a b) := by
  unfold Srt sg
  rw [List.pairwise_map]
  refine List.Pairwise.imp_of_mem ?_ (List.pairwise_lt_range (n := b - a))
  intro i j hi hj hij
  exact h _ _ (by omega) (by omega) (by have := List.mem_range.1 hj; omega)
theorem srt_le {d : Array α} {a b : Nat} (h : Srt key (sg d a b)) {i j : Nat} (h1 : a ≤ i) (h2 : i ≤ j) (h3 : j < b) : key d[i]! ≤ key d[j]! := by
  by_cases e : i = j
  · subst e; exact Int.le_refl _
  · unfold Srt sg at h
    rw [List.pairwise_map, List.pairwise_iff_getElem] at h
    have := h (i - a) (j - a) (by simp; omega) (by simp; omega) (by omega)
    simp only [List.getElem_range] at this
    rwa [show a + (i - a) = i by omega, show a + (j - a) = j by omega] at this
theorem sg_all (d : Array α) : sg d 0 d.size = d.toList := by
  apply List.ext_getElem?
  intro i
  by_cases h : i < d.size
  · rw [sg_get _ _ _ _ (by omega)]
    simp [h]
  · rw [List.getElem?_eq_none (by rw [sg_len]; omega), List.getElem?_eq_none (by simp; omega)]

/-- what stands behind a rotation -/
theorem RotR.left {d d' : Array α} {a m b : Nat} (h : RotR d d' a m b) (h1 : a ≤ m) (h2 : m ≤ b) : sg d' a (a + (b - m)) = sg d m b :=
  sg_shift (by omega) fun i hi => by rw [h.2 (a + i), if_pos (by omega)]; congr 1; omega
theorem RotR.right {d d' : Array α} {a m b : Nat} (h : RotR d d' a m b) (h1 : a ≤ m) (h2 : m ≤ b) : sg d' (a + (b - m)) b = sg d a m :=
  sg_shift (by omega) fun i hi => by rw [h.2 (a + (b - m) + i), if_neg (by omega), if_pos (by omega)]; congr 1; omega
theorem RotR.out {d d' : Array α} {a m b : Nat} (h : RotR d d' a m b) (h1 : a ≤ m) (h2 : m ≤ b) {j : Nat} (hj : ¬ (a ≤ j ∧ j < b)) : d'[j]! = d[j]! := by
  rw [h.2 j, if_neg (by omega), if_neg (by omega)]
theorem RotR.nothing (d : Array α) (a m b : Nat) (h : a = m ∨ m = b) : RotR d d a m b := by
  refine ⟨rfl, fun j => ?_⟩
  (repeat' split) <;> first | (exfalso; omega) | rfl | (congr 1; omega)

/-- from a to b in order, those of one key as they were; the others untouched -/
structure MerR (key : α → Int) (d d' : Array α) (a b : Nat) : Prop where
  size : d'.size = d.size
  out : ∀ j, ¬ (a ≤ j ∧ j < b) → d'[j]! = d[j]!
  srt : Srt key (sg d' a b)
  ren : Ren key (sg d a b) (sg d' a b)

/-- one element, found its place: it goes before those that are not smaller -/
theorem mer_first {d d' : Array α} {a i b : Nat} (h : RotR d d' a (a + 1) i) (hi : a + 1 ≤ i) (hib : i ≤ b) (hs : Srt key (sg d (a + 1) b))
    (hl : ∀ j, a + 1 ≤ j → j < i → key d[j]! < key d[a]!) (hr : ∀ j, i ≤ j → j < b → key d[a]! ≤ key d[j]!) : MerR key d d' a b := by
  have e0 : sg d' a (a + (i - (a + 1))) = sg d (a + 1) i := h.left (by omega) hi
  have e1 : sg d' (a + (i - (a + 1))) i = sg d a (a + 1) := h.right (by omega) hi
  have e2 : sg d' i b = sg d i b := sg_same fun j h1 h2 => h.out (by omega) hi (by omega)
  have e3 : sg d' a b = sg d (a + 1) i ++ (sg d a (a + 1) ++ sg d i b) := by
    rw [← sg_app d' (m := a + (i - (a + 1))) (by omega) (by omega), ← sg_app d' (a := a + (i - (a + 1))) (m := i) (by omega) hib, e0, e1, e2]
  have e4 : sg d a b = (([] : List α) ++ sg d a (a + 1)) ++ (sg d (a + 1) i ++ sg d i b) := by
    rw [List.nil_append, sg_app d hi hib, sg_app d (by omega) (by omega)]
  have hs' : Srt key (sg d (a + 1) i ++ sg d i b) := by rwa [sg_app d hi hib]
  have := merge_cut (key := key) (A1 := []) (A2 := sg d a (a + 1)) (B1 := sg d (a + 1) i) (B2 := sg d i b) (C := sg d (a + 1) i) (D := sg d a (a + 1) ++ sg d i b)
    (by rw [List.nil_append, sg_one]; exact Srt.one _) hs' (fun _ h => by simp at h)
    (fun b hb a' ha' => by
      rw [sg_one, List.mem_singleton] at ha'
      obtain ⟨j, h1, h2, rfl⟩ := sg_mem.1 hb
      subst ha'; exact hl j h1 h2)
    hs'.left
    (Srt.append (by rw [sg_one]; exact Srt.one _) hs'.right (fun x hx y hy => by
      rw [sg_one, List.mem_singleton] at hx
      obtain ⟨j, h1, h2, rfl⟩ := sg_mem.1 hy
      subst hx; exact hr j h1 h2))
    (Ren.refl _) (Ren.refl _)
  exact ⟨h.1, fun j hj => h.out (by omega) hi (by omega), e3 ▸ this.1, by rw [e3, e4]; exact this.2⟩
theorem mer_last {d d' : Array α} {a i m : Nat} (h : RotR d d' i m (m + 1)) (hai : a ≤ i) (him : i ≤ m) (hs : Srt key (sg d a m))
    (hl : ∀ j, a ≤ j → j < i → key d[j]! ≤ key d[m]!) (hr : ∀ j, i ≤ j → j < m → key d[m]! < key d[j]!) : MerR key d d' a (m + 1) := by
  have e0 : sg d' i (i + (m + 1 - m)) = sg d m (m + 1) := h.left him (by omega)
  have e1 : sg d' (i + (m + 1 - m)) (m + 1) = sg d i m := h.right him (by omega)
  have e2 : sg d' a i = sg d a i := sg_same fun j h1 h2 => h.out him (by omega) (by omega)
  have e3 : sg d' a (m + 1) = (sg d a i ++ sg d m (m + 1)) ++ sg d i m := by
    rw [← sg_app d' (m := i + (m + 1 - m)) (by omega) (by omega), ← sg_app d' (b := i + (m + 1 - m)) (m := i) hai (by omega), e0, e1, e2]
  have e4 : sg d a (m + 1) = (sg d a i ++ sg d i m) ++ (sg d m (m + 1) ++ ([] : List α)) := by
    rw [List.append_nil, sg_app d hai him, sg_app d (by omega) (by omega)]
  have hs' : Srt key (sg d a i ++ sg d i m) := by rwa [sg_app d hai him]
  have := merge_cut (key := key) (A1 := sg d a i) (A2 := sg d i m) (B1 := sg d m (m + 1)) (B2 := []) (C := sg d a i ++ sg d m (m + 1)) (D := sg d i m)
    hs' (by rw [List.append_nil, sg_one]; exact Srt.one _) (fun _ _ _ h => by simp at h)
    (fun b hb a' ha' => by
      rw [sg_one, List.mem_singleton] at hb
      obtain ⟨j, h1, h2, rfl⟩ := sg_mem.1 ha'
      subst hb; exact hr j h1 h2)
    (Srt.append hs'.left (by rw [sg_one]; exact Srt.one _) (fun x hx y hy => by
      rw [sg_one, List.mem_singleton] at hy
      obtain ⟨j, h1, h2, rfl⟩ := sg_mem.1 hx
      subst hy; exact hl j h1 h2))
    hs'.right
    (Ren.refl _) (by rw [List.append_nil]; exact Ren.refl _)
  exact ⟨h.1, fun j hj => h.out him (by omega) (by omega), e3 ▸ this.1, by rw [e3, e4]; exact this.2⟩
/-- a merge is sorted already where one of the two runs is empty -/
theorem mer_nothing {d : Array α} {a m b : Nat} (h1 : Srt key (sg d a m)) (h2 : Srt key (sg d m b)) (h : a = m ∨ m = b) : MerR key d d a b :=
  ⟨rfl, fun _ _ => rfl, by rcases h with rfl | rfl <;> assumption, Ren.refl _⟩
/-- two runs, cut at s and e, the middle ones turned, the halves merged -/
theorem mer_cut {d d1 d2 d3 : Array α} {a s m e b c : Nat} (has : a ≤ s) (hsm : s ≤ m) (hme : m ≤ e) (heb : e ≤ b) (hc : c = s + (e - m))
    (hA : Srt key (sg d a m)) (hB : Srt key (sg d m b)) (h12 : a < s → e < b → key d[s - 1]! ≤ key d[e]!) (h21 : m < e → s < m → key d[e - 1]! < key d[s]!)
    (h1 : RotR d d1 s m e) (h2 : MerR key d1 d2 a c) (h3 : MerR key d2 d3 c b) : MerR key d d3 a b := by
  have q0 : sg d1 a s = sg d a s := sg_same fun j p q => h1.out hsm hme (by omega)
  have q1 : sg d1 s c = sg d m e := by rw [hc]; exact h1.left hsm hme
  have q2 : sg d1 c e = sg d s m := by rw [hc]; exact h1.right hsm hme
  have q3 : sg d1 e b = sg d e b := sg_same fun j p q => h1.out hsm hme (by omega)
  have q4 : sg d1 a c = sg d a s ++ sg d m e := by rw [← sg_app d1 (m := s) has (by omega), q0, q1]
  have q5 : sg d1 c b = sg d s m ++ sg d e b := by rw [← sg_app d1 (m := e) (by omega) heb, q2, q3]
  have q6 : sg d2 c b = sg d1 c b := sg_same fun j p q => h2.out j (by omega)
  have q7 : sg d3 a c = sg d2 a c := sg_same fun j p q => h3.out j (by omega)
  have q8 : sg d3 a b = sg d2 a c ++ sg d3 c b := by rw [← sg_app d3 (m := c) (by omega) (by omega), q7]
  have q9 : sg d a b = (sg d a s ++ sg d s m) ++ (sg d m e ++ sg d e b) := by rw [sg_app d has hsm, sg_app d hme heb, sg_app d (by omega) (by omega)]
  have := merge_cut (key := key) (A1 := sg d a s) (A2 := sg d s m) (B1 := sg d m e) (B2 := sg d e b) (C := sg d2 a c) (D := sg d3 c b)
    (by rwa [sg_app d has hsm]) (by rwa [sg_app d hme heb])
    (fun x hx y hy => by
      obtain ⟨i, i1, i2, rfl⟩ := sg_mem.1 hx
      obtain ⟨j, j1, j2, rfl⟩ := sg_mem.1 hy
      exact Int.le_trans (Int.le_trans (srt_le hA i1 (show i ≤ s - 1 by omega) (by omega)) (h12 (by omega) (by omega))) (srt_le hB hme j1 j2))
    (fun y hy x hx => by
      obtain ⟨i, i1, i2, rfl⟩ := sg_mem.1 hx
      obtain ⟨j, j1, j2, rfl⟩ := sg_mem.1 hy
      exact Int.lt_of_lt_of_le (Int.lt_of_le_of_lt (srt_le hB j1 (show j ≤ e - 1 by omega) (by omega)) (h21 (by omega) (by omega))) (srt_le hA has i1 i2))
    h2.srt h3.srt (by rw [← q4]; exact h2.ren) (by rw [← q5, ← q6]; exact h3.ren)
  refine ⟨h3.size.trans (h2.size.trans h1.1), fun j hj => ?_, q8 ▸ this.1, by rw [q8, q9]; exact this.2⟩
  rw [h3.out j (by omega), h2.out j (by omega), h1.out hsm hme (by omega)]
end Go.Proofs.Ytdoemgccmjddcaa.So
