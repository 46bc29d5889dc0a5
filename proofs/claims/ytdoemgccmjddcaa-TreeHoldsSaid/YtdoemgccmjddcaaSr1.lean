/- Entries of a trace; what went, and by which entry it came. -/
import Derived.Test.YtdoemgccmjddcaaLi
import Derived.Test.YtdoemgccmjddcaaSt5
namespace Go.Proofs.Ytdoemgccmjddcaa.Sr
open Go.RowKit Wd Li

/-- an entry -/
structure En where
  kind : Int
  raw : ByteArray
  n : Int
  okind : Int
  seq : Int
  leaf : Int
  lender : Int
  reason : Int
  now : Int
  wake : Int
  reply : ByteArray
def En.cells (e : En) : List Value := [.int .i64 e.kind, .string e.raw, .int .i64 e.n, .int .i64 e.okind, .int .i64 e.seq, .int .i64 e.leaf, .int .i64 e.lender, .int .i64 e.reason, .int .i64 e.now, .int .i64 e.wake, .string e.reply]
def En.agg (e : En) : Value := .agg #[.int .i64 e.kind, .string e.raw, .int .i64 e.n, .int .i64 e.okind, .int .i64 e.seq, .int .i64 e.leaf, .int .i64 e.lender, .int .i64 e.reason, .int .i64 e.now, .int .i64 e.wake, .string e.reply]
theorem en_len (x : En) : x.cells.length = 11 := rfl
theorem en_one (x : En) : ∀ u ∈ x.cells, u.oneCell' = true := by
  intro u hu; simp [En.cells] at hu
  rcases hu with rfl | rfl | rfl | rfl | rfl | rfl | rfl | rfl | rfl | rfl | rfl <;> rfl
abbrev Ls (n₀ : Nat) (W : World) (sv : Value) (l : List En) : Prop := Lies 11 En.cells n₀ W sv l

/-- it was kept -/
def En.kept (x : En) : Bool := x.kind == 1 && x.reason == 0
/-- it was sent -/
def En.sent (x : En) : Bool := x.kind == 2 && decide (0 < x.seq)
/-- the first that was kept under this number, among the first k -/
def first (l : List En) : Nat → Int → Option Nat
  | 0, _ => none
  | k + 1, s => match first l k s with
    | some j => some j
    | none => match l[k]? with
      | some x => if x.kept && x.seq == s then some k else none
      | none => none
/-- the place of the entry by which what went at 'k' came -/
def came (l : List En) (k : Nat) (x : En) : Option Nat := if x.sent then first l k x.seq else none
/-- what went, with that by which it came -/
def went1 (l : List En) (k : Nat) : List (En × En) :=
  match l[k]? with
  | some x => match came l k x with
    | some j => match l[j]? with
      | some y => [(x, y)]
      | none => []
    | none => []
  | none => []
def went (l : List En) : Nat → List (En × En)
  | 0 => []
  | k + 1 => went l k ++ went1 l k
theorem first_lt {l : List En} {k j : Nat} {s : Int} (h : first l k s = some j) : j < k ∧ ∃ y, l[j]? = some y ∧ y.kept = true ∧ y.seq = s := by
  induction k with
  | zero => cases h
  | succ k ih =>
    unfold first at h
    cases hf : first l k s with
    | some i =>
      rw [hf] at h
      cases h
      obtain ⟨h1, h2⟩ := ih hf
      exact ⟨by omega, h2⟩
    | none =>
      rw [hf] at h
      cases hx : l[k]? with
      | none => rw [hx] at h; cases h
      | some x =>
        rw [hx] at h
        simp only at h
        split at h
        · rename_i hq
          simp only [Bool.and_eq_true, beq_iff_eq] at hq
          cases h
          exact ⟨by omega, x, hx, hq.1, hq.2⟩
        · cases h
theorem first_none {l : List En} {k : Nat} {s : Int} (h : first l k s = none) : ∀ (j : Nat) (y : En), j < k → l[j]? = some y → ¬ (y.kept = true ∧ y.seq = s) := by
  induction k with
  | zero => intro j y hj; omega
  | succ k ih =>
    unfold first at h
    cases hf : first l k s with
    | some i => rw [hf] at h; cases h
    | none =>
      rw [hf] at h
      intro j y hj hy hq
      by_cases e : j = k
      · subst e
        rw [hy] at h
        simp [hq.1, hq.2] at h
      · exact ih hf j y (by omega) hy hq
theorem first_is {l : List En} {k j : Nat} {s : Int} {y : En} (hj : j < k) (hy : l[j]? = some y) (hq : y.kept = true ∧ y.seq = s) (hno : ∀ (i : Nat) (u : En), i < j → l[i]? = some u → ¬ (u.kept = true ∧ u.seq = s)) : first l k s = some j := by
  cases h : first l k s with
  | none => exact absurd hq (first_none h j y hj hy)
  | some i =>
    obtain ⟨h1, u, hu, hk, hs⟩ := first_lt h
    by_cases e : i = j
    · rw [e]
    · by_cases hlt : i < j
      · exact absurd ⟨hk, hs⟩ (hno i u hlt hu)
      · exfalso
        have : ∀ m, m ≤ i → j < m → ∃ q, q ≤ j ∧ first l m s = some q := by
          intro m
          induction m with
          | zero => intro _ h; omega
          | succ m ih =>
            intro hm hjm
            unfold first
            by_cases e2 : j < m
            · obtain ⟨q, h1, h2⟩ := ih (by omega) e2
              rw [h2]; exact ⟨q, h1, rfl⟩
            · obtain rfl : j = m := by omega
              cases hf : first l j s with
              | some q => exact ⟨q, by have := (first_lt hf).1; omega, rfl⟩
              | none => simp only [hy, hq.1, hq.2]; exact ⟨j, Nat.le_refl _, by simp⟩
        have mono : ∀ m q, first l m s = some q → ∀ p, m ≤ p → first l p s = some q := by
          intro m q hm p hp
          induction p with
          | zero => obtain rfl : m = 0 := by omega
                    exact hm
          | succ p ih =>
            by_cases e3 : m = p + 1
            · rw [← e3]; exact hm
            · unfold first; rw [ih (by omega)]
        obtain ⟨q, h2, h3⟩ := this i (Nat.le_refl _) (by omega)
        have := mono i q h3 k (by omega)
        rw [h] at this
        cases this
        omega
end Go.Proofs.Ytdoemgccmjddcaa.Sr
