/- Go's insertion sort keeps equals in their order; blocks that are sorted, merged two by two. -/
import Derived.Test.YtdoemgccmjddcaaSo2
import Derived.Shelf.SlSortCmp.Insertion
namespace Go.Proofs.Ytdoemgccmjddcaa.So
open Go.Sort
variable {α : Type} [Inhabited α] {key : α → Int}

theorem rot_swp {d : Array α} {j : Nat} (h : j + 1 < d.size) : RotR d (swp d (j + 1) j) j (j + 1) (j + 2) := by
  refine ⟨swp_size _ _ _, fun t => ?_⟩
  rw [swp_get d h (by omega)]
  (repeat' split) <;> first | (exfalso; omega) | rfl | (congr 1; omega)
theorem ren_swp {d : Array α} {a b j : Nat} (h1 : a ≤ j) (h2 : j + 1 < b) (hb : b ≤ d.size) (hk : key d[j + 1]! < key d[j]!) : Ren key (sg d a b) (sg (swp d (j + 1) j) a b) := by
  have hr := rot_swp (d := d) (j := j) (by omega)
  have e0 : sg (swp d (j + 1) j) j (j + 1) = sg d (j + 1) (j + 2) := by have := hr.left (by omega) (by omega); rwa [show j + (j + 2 - (j + 1)) = j + 1 by omega] at this
  have e1 : sg (swp d (j + 1) j) (j + 1) (j + 2) = sg d j (j + 1) := by have := hr.right (by omega) (by omega); rwa [show j + (j + 2 - (j + 1)) = j + 1 by omega] at this
  have e2 : sg (swp d (j + 1) j) a j = sg d a j := sg_same fun t p q => hr.out (by omega) (by omega) (by omega)
  have e3 : sg (swp d (j + 1) j) (j + 2) b = sg d (j + 2) b := sg_same fun t p q => hr.out (by omega) (by omega) (by omega)
  rw [← sg_app (swp d (j + 1) j) (m := j) h1 (by omega), ← sg_app (swp d (j + 1) j) (a := j) (m := j + 2) (by omega) (by omega), ← sg_app (swp d (j + 1) j) (a := j) (m := j + 1) (by omega) (by omega), e0, e1, e2, e3,
    ← sg_app d (m := j) h1 (by omega), ← sg_app d (a := j) (m := j + 2) (by omega) (by omega), ← sg_app d (a := j) (m := j + 1) (by omega) (by omega)]
  refine (Ren.refl _).append (Ren.append (Ren.rotate fun x hx y hy => ?_) (Ren.refl _))
  rw [sg_one, List.mem_singleton] at hx
  rw [sg_one, List.mem_singleton] at hy
  subst hx hy; omega

variable {cf : α → α → Int}
theorem ren_inner (hcf : ∀ x y, cf x y < 0 ↔ key x < key y) {a b : Nat} : ∀ (j : Nat) (d : Array α), a ≤ j → j < b → b ≤ d.size → Ren key (sg d a b) (sg (insInner (ltOf cf) a j d) a b) ∧ (insInner (ltOf cf) a j d).size = d.size
  | 0, d, _, _, _ => ⟨Ren.refl _, rfl⟩
  | j + 1, d, h1, h2, hb => by
    rw [insInner]
    split
    · rename_i hc
      simp only [Bool.and_eq_true, decide_eq_true_eq, ltOf, hcf] at hc
      have ih := ren_inner hcf (a := a) (b := b) j (swp d (j + 1) j) (by omega) (by omega) (by rw [swp_size]; exact hb)
      exact ⟨(ren_swp (by omega) h2 hb hc.2).trans ih.1, ih.2.trans (swp_size _ _ _)⟩
    · exact ⟨Ren.refl _, rfl⟩
theorem ren_outer (hcf : ∀ x y, cf x y < 0 ↔ key x < key y) {a b : Nat} : ∀ (n i : Nat) (d : Array α), b - i = n → a ≤ i → b ≤ d.size → Ren key (sg d a b) (sg (insOuter (ltOf cf) a b i d) a b)
  | 0, i, d, hn, _, _ => by rw [insOuter, if_neg (by omega)]; exact Ren.refl _
  | n + 1, i, d, hn, h1, hb => by
    rw [insOuter, if_pos (by omega)]
    have := ren_inner hcf (a := a) (b := b) i d h1 (by omega) hb
    exact this.1.trans (ren_outer hcf n (i + 1) _ (by omega) (by omega) (by rw [this.2]; exact hb))
omit [Inhabited α] in
theorem swo_key (hcf : ∀ x y, cf x y < 0 ↔ key x < key y) : SWO (ltOf cf) where
  irrefl x := by simp [ltOf, hcf]
  trans x y z h1 h2 := by simp only [ltOf, decide_eq_true_eq, hcf] at *; omega
  ntrans x y z h1 h2 := by simp only [ltOf, decide_eq_false_iff_not, hcf] at *; omega
theorem ins_mer (hcf : ∀ x y, cf x y < 0 ↔ key x < key y) (d : Array α) {a b : Nat} (hab : a ≤ b) (hb : b ≤ d.size) : MerR key d (insertionSort (ltOf cf) d a b) a b := by
  obtain ⟨hp, hs⟩ := insertionSort_holds (lt := ltOf cf) (swo_key hcf) d a b hab hb
  refine ⟨hp.1, fun j hj => hp.2.1 j (by omega), srt_sg fun i j h1 h2 h3 => ?_, ren_outer hcf _ _ _ rfl (by omega) hb⟩
  have := hs i j h1 h2 h3
  simp only [ltOf, decide_eq_false_iff_not, hcf] at this
  omega

/-- from 0 on, each block of s is sorted, up to n -/
def Blocks (key : α → Int) (s n : Nat) (d : Array α) : Prop := ∀ a, s ∣ a → a < n → Srt key (sg d a (min (a + s) n))
end Go.Proofs.Ytdoemgccmjddcaa.So
