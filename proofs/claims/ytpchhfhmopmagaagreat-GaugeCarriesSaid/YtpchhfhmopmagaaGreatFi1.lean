/- Lists of filters sorted by a key: pure. -/
import Derived.Test.YtpchhfhmopmagaaGreatFi0
import Derived.Test.YtpchhfhmopmagaaGreatSsM
set_option linter.unusedVariables false
set_option linter.unusedSimpArgs false
namespace Go.Proofs.YtpchhfhmopmagaaGreat.Fi
open Go.RowKit Go.Proofs.YtpchhfhmopmagaaGreat.So

/-! sorted by a key -/
section
variable {α : Type} (key : α → Int)
def insK (l : List α) (x : α) : List α := l.takeWhile (fun y => decide (key y ≤ key x)) ++ x :: l.dropWhile (fun y => decide (key y ≤ key x))
def sortK (l : List α) : List α := l.foldl (insK key) []
end
section
variable {α : Type} {key : α → Int}
theorem dropK_gt (x : α) : ∀ (l : List α), Srt key l → ∀ b ∈ l.dropWhile (fun y => decide (key y ≤ key x)), key x < key b
  | [], _, b, hb => by simp at hb
  | y :: l, hs, b, hb => by
    rw [List.dropWhile_cons] at hb
    split at hb
    · exact dropK_gt x l (List.pairwise_cons.1 hs).2 b hb
    · rename_i h
      have hy : key x < key y := by simpa using h
      rcases List.mem_cons.1 hb with rfl | hb
      · exact hy
      · exact Int.lt_of_lt_of_le hy ((List.pairwise_cons.1 hs).1 b hb)
theorem insK_ok {l : List α} (x : α) (h : Srt key l) : Srt key (insK key l x) ∧ Ren key (l ++ [x]) (insK key l x) := by
  have := ins_ok (key := key) (u := l.takeWhile (fun y => decide (key y ≤ key x))) (v := l.dropWhile (fun y => decide (key y ≤ key x))) (x := x) (by rwa [List.takeWhile_append_dropWhile])
    (fun a ha => by simpa using takeWhile_all _ l a ha) (dropK_gt x l h)
  rwa [List.takeWhile_append_dropWhile] at this
theorem sortK_from : ∀ (l m : List α), Srt key m → Srt key (l.foldl (insK key) m) ∧ Ren key (m ++ l) (l.foldl (insK key) m)
  | [], m, h => ⟨h, by rw [List.append_nil]; exact Ren.refl _⟩
  | x :: l, m, h => by
    have h1 := insK_ok x h
    have h2 := sortK_from l (insK key m x) h1.1
    refine ⟨h2.1, ?_⟩
    have : Ren key (m ++ x :: l) (insK key m x ++ l) := by
      rw [show m ++ x :: l = (m ++ [x]) ++ l by simp]
      exact h1.2.append (Ren.refl _)
    exact this.trans h2.2
theorem sortK_ok (l : List α) : Srt key (sortK key l) ∧ Ren key l (sortK key l) := sortK_from l [] Srt.nil
theorem sortK_uniq {l m : List α} (h1 : Srt key m) (h2 : Ren key l m) : m = sortK key l := uniq h1 (sortK_ok l).1 (h2.symm.trans (sortK_ok l).2)
theorem sortK_len (l : List α) : (sortK key l).length = l.length := (sortK_ok l).2.len.symm
end
/-- by priority, then by ID -/
def ordK (f : F) : Int := f.prio * 18446744073709551616 + f.id
def cmpN (a b : Int) : Int := if a < b then -1 else if a > b then 1 else 0
def lessF (a b : F) : Bool := if a.prio = b.prio then decide (a.id < b.id) else decide (a.prio < b.prio)
def cmpO (a b : F) : Int := if lessF a b then -1 else if lessF b a then 1 else 0
def cmpD (a b : F) : Int := cmpN a.id b.id
theorem cmpD_lt (a b : F) : cmpD a b < 0 ↔ a.id < b.id := by
  unfold cmpD cmpN
  split
  · simp; assumption
  · split <;> constructor <;> intro h <;> omega
theorem lessF_iff (a b : F) : lessF a b = true ↔ ordK a < ordK b := by
  have ha := a.ok.1.1; have hb := b.ok.1.1
  unfold InI at ha hb
  unfold lessF ordK
  split
  · rename_i h; rw [decide_eq_true_eq, h]; omega
  · rename_i h; rw [decide_eq_true_eq]; omega
theorem cmpO_lt (a b : F) : cmpO a b < 0 ↔ ordK a < ordK b := by
  unfold cmpO
  rw [← lessF_iff]
  split
  · rename_i h; simp [h]
  · rename_i h
    split <;> simp [h]
end Go.Proofs.YtpchhfhmopmagaaGreat.Fi
