/- class.Sorted: the list sorted by id, equals in their places. -/
import Derived.Test.YtdoemgccmjddcaaSs9
namespace Go.Proofs.Ytdoemgccmjddcaa.So
open Go.RowKit Go.Shelf Cl Wd Go.Sort

/-- one more, behind all that are not greater -/
def ins1 (l : List Cls) (x : Cls) : List Cls := l.takeWhile (fun y => decide (y.id ≤ x.id)) ++ x :: l.dropWhile (fun y => decide (y.id ≤ x.id))
/-- the list sorted by id, equals in their places -/
def sortC (l : List Cls) : List Cls := l.foldl ins1 []

theorem takeWhile_all {α : Type} (p : α → Bool) (l : List α) : ∀ a ∈ l.takeWhile p, p a = true := by
  induction l with
  | nil => simp
  | cons x l ih =>
    rw [List.takeWhile_cons]
    split
    · rename_i h; intro a ha; rcases List.mem_cons.1 ha with rfl | ha
      · exact h
      · exact ih a ha
    · simp
theorem dropWhile_gt (x : Cls) : ∀ (l : List Cls), Srt Cls.id l → ∀ b ∈ l.dropWhile (fun y => decide (y.id ≤ x.id)), x.id < b.id
  | [], _, b, hb => by simp at hb
  | y :: l, hs, b, hb => by
    rw [List.dropWhile_cons] at hb
    split at hb
    · exact dropWhile_gt x l (List.pairwise_cons.1 hs).2 b hb
    · rename_i h
      have hy : x.id < y.id := by simpa using h
      rcases List.mem_cons.1 hb with rfl | hb
      · exact hy
      · exact Int.lt_of_lt_of_le hy ((List.pairwise_cons.1 hs).1 b hb)
theorem ins1_ok {l : List Cls} (x : Cls) (h : Srt Cls.id l) : Srt Cls.id (ins1 l x) ∧ Ren Cls.id (l ++ [x]) (ins1 l x) := by
  have := ins_ok (key := Cls.id) (u := l.takeWhile (fun y => decide (y.id ≤ x.id))) (v := l.dropWhile (fun y => decide (y.id ≤ x.id))) (x := x) (by rwa [List.takeWhile_append_dropWhile])
    (fun a ha => by simpa using takeWhile_all _ l a ha) (dropWhile_gt x l h)
  rwa [List.takeWhile_append_dropWhile] at this
theorem sort_from : ∀ (l m : List Cls), Srt Cls.id m → Srt Cls.id (l.foldl ins1 m) ∧ Ren Cls.id (m ++ l) (l.foldl ins1 m)
  | [], m, h => ⟨h, by rw [List.append_nil]; exact Ren.refl _⟩
  | x :: l, m, h => by
    have h1 := ins1_ok x h
    have h2 := sort_from l (ins1 m x) h1.1
    refine ⟨h2.1, ?_⟩
    have : Ren Cls.id (m ++ x :: l) (ins1 m x ++ l) := by
      rw [show m ++ x :: l = (m ++ [x]) ++ l by simp]
      exact h1.2.append (Ren.refl _)
    exact this.trans h2.2
theorem sortC_ok (l : List Cls) : Srt Cls.id (sortC l) ∧ Ren Cls.id l (sortC l) := sort_from l [] Srt.nil
theorem sortC_uniq {l m : List Cls} (h1 : Srt Cls.id m) (h2 : Ren Cls.id l m) : m = sortC l := uniq h1 (sortC_ok l).1 (h2.symm.trans (sortC_ok l).2)
theorem sortC_len (l : List Cls) : (sortC l).length = l.length := (sortC_ok l).2.len.symm

theorem swk_below {w W : World} {blk off : Nat} {d : Array Cls} (h : SWK Cls.cells 11 w blk off d W) (n : Nat) (hn : n ≤ blk) (hw : n ≤ w.heap.size) : Below n w W := by
  obtain ⟨m, os, rfl⟩ := h
  refine ⟨rfl, rfl, rfl, ?_, fun k hk => ?_⟩
  · show w.heap.size ≤ ((putRowK Cls.cells 11 (Sort.ahead w m) blk off d).heap ++ os).size
    rw [Array.size_append, size_putRowK]; exact Nat.le_add_right _ _
  · show ((putRowK Cls.cells 11 (Sort.ahead w m) blk off d).heap ++ os)[k]? = w.heap[k]?
    rw [Array.getElem?_append_left (by rw [size_putRowK]; show k < w.heap.size; omega)]
    show (w.heap.modify blk _)[k]? = w.heap[k]?
    rw [Array.getElem?_modify, if_neg (by omega)]
end Go.Proofs.Ytdoemgccmjddcaa.So
