/- Slices of structs, whatever their elements: where they lie, kept, made, appended. -/
import Derived.Test.YtpchhfhmopmagaaGreatWd
import Derived.Maps.AppendAt
import Derived.Deep.AppendLies
import Derived.Laws.AppendOwnNone
set_option linter.unusedVariables false
set_option linter.unusedSimpArgs false
namespace Go.Proofs.YtpchhfhmopmagaaGreat.Li
open Go.RowKit Wd

/-- a slice holds the elements 'zs', each in 'z' cells, in a block below n₀ -/
def Lies {α : Type} (z : Nat) (cells : α → List Value) (n₀ : Nat) (W : World) (sv : Value) (zs : List α) : Prop :=
  (sv = .slice none 0 0 ∧ zs = []) ∨ ∃ b off cap, sv = .slice (some ⟨b, off, none⟩) zs.length cap ∧ b < n₀ ∧ ∀ (j : Nat) (x : α), zs[j]? = some x → ∀ (i : Nat) (v : Value), (cells x)[i]? = some v → W.cell? ⟨b, off + j * z + i, none⟩ = some v
section
variable {α : Type} {z : Nat} {cells : α → List Value} {n₀ n₁ : Nat} {A B : World} {sv : Value} {zs : List α}
theorem Lies.below (h : Below n₀ A B) : Lies z cells n₀ A sv zs → Lies z cells n₀ B sv zs
  | .inl e => .inl e
  | .inr ⟨b, off, cap, e, hb, hc⟩ => .inr ⟨b, off, cap, e, hb, fun j x hx i v hv => (h.cell (p := ⟨b, off + j * z + i, none⟩) hb).trans (hc j x hx i v hv)⟩
theorem Lies.up (hn : n₀ ≤ n₁) : Lies z cells n₀ A sv zs → Lies z cells n₁ A sv zs
  | .inl e => .inl e
  | .inr ⟨b, off, cap, e, hb, hc⟩ => .inr ⟨b, off, cap, e, Nat.lt_of_lt_of_le hb hn, hc⟩
theorem Lies.next (h : Below A.heap.size A B) (k : Lies z cells A.heap.size A sv zs) : Lies z cells B.heap.size B sv zs := (k.below h).up h.size
theorem Lies.form : Lies z cells n₀ A sv zs → ∃ a c, sv = .slice a zs.length c
  | .inl ⟨e, h⟩ => ⟨none, 0, by rw [e, h]; rfl⟩
  | .inr ⟨_, _, _, e, _, _⟩ => ⟨_, _, e⟩
/-- taken apart -/
theorem Lies.parts {a : Option Addr} {len cap : Nat} (h : Lies z cells n₀ A (.slice a len cap) zs) : len = zs.length ∧ (0 < zs.length → ∃ b off, a = some ⟨b, off, none⟩ ∧ b < n₀ ∧ ∀ (j : Nat) (x : α), zs[j]? = some x → ∀ (i : Nat) (v : Value), (cells x)[i]? = some v → A.cell? ⟨b, off + j * z + i, none⟩ = some v) := by
  rcases h with ⟨e, rfl⟩ | ⟨b, off, c, e, hb, hc⟩
  · cases e; exact ⟨rfl, fun h => absurd h (by simp)⟩
  · obtain ⟨rfl, rfl, rfl⟩ := Value.slice.inj e
    exact ⟨rfl, fun _ => ⟨b, off, rfl, hb, hc⟩⟩
theorem flat_at (hz : ∀ x, (cells x).length = z) : ∀ (zs : List α) (j : Nat) (x : α) (i : Nat) (v : Value), zs[j]? = some x → (cells x)[i]? = some v → (zs.flatMap cells)[j * z + i]? = some v
  | [], j, x, i, v, h, _ => by simp at h
  | y :: zs, 0, x, i, v, h, hv => by
    have : y = x := by simpa using h
    subst this
    have hi := (List.getElem?_eq_some_iff.1 hv).1
    rw [List.flatMap_cons, Nat.zero_mul, Nat.zero_add, List.getElem?_append_left hi, hv]
  | y :: zs, j + 1, x, i, v, h, hv => by
    rw [List.flatMap_cons, List.getElem?_append_right (by rw [hz, Nat.succ_mul]; omega), hz]
    have e : (j + 1) * z + i - z = j * z + i := by rw [Nat.succ_mul]; omega
    rw [e]
    exact flat_at hz zs j x i v (by simpa using h) hv
theorem flat_of (hz : ∀ x, (cells x).length = z) : ∀ (zs : List α) (t : Nat) (v : Value), (zs.flatMap cells)[t]? = some v → ∃ j x i, zs[j]? = some x ∧ (cells x)[i]? = some v ∧ t = j * z + i
  | [], t, v, h => by simp at h
  | y :: zs, t, v, h => by
    rw [List.flatMap_cons] at h
    by_cases ht : t < z
    · rw [List.getElem?_append_left (by rw [hz]; exact ht)] at h
      exact ⟨0, y, t, rfl, h, by omega⟩
    · rw [List.getElem?_append_right (by rw [hz]; omega), hz] at h
      obtain ⟨j, x, i, h1, h2, h3⟩ := flat_of hz zs _ v h
      exact ⟨j + 1, x, i, by simpa using h1, h2, by rw [Nat.succ_mul]; omega⟩
theorem flat_length (hz : ∀ x, (cells x).length = z) (zs : List α) : (zs.flatMap cells).length = zs.length * z := by
  induction zs with
  | nil => simp
  | cons x l ih => rw [List.flatMap_cons, List.length_append, ih, hz, List.length_cons, Nat.succ_mul]; omega
theorem lies_own {base : Nat} {e : TypeId} (hz : ∀ x, (cells x).length = z) (hpos : 0 < z) (h : A.ownsRow base e z sv zs.length (zs.flatMap cells)) : Lies z cells A.heap.size A sv zs := by
  obtain ⟨a, c, rfl⟩ := own_slice hpos h
  by_cases hzs : zs = []
  · subst hzs
    rcases h.2 with ⟨e, _⟩ | ⟨g, cap, cur, e, hb, hg, _⟩
    · exact .inl ⟨e, rfl⟩
    · obtain ⟨rfl, _, _⟩ := Value.slice.inj e
      refine .inr ⟨g, 0, c, rfl, ?_, fun j x hx => by simp at hx⟩
      rcases Nat.lt_or_ge g A.heap.size with hlt | hge
      · exact hlt
      · rw [Array.getElem?_eq_none hge] at hg; cases hg
  · have hn : 0 < zs.length := List.length_pos_iff.2 hzs
    obtain ⟨g, cap, hv, hb, hg⟩ := h.form hn
    obtain ⟨rfl, _, rfl⟩ := Value.slice.inj hv
    refine .inr ⟨g, 0, c, rfl, hg, fun j x hx i v hv => ?_⟩
    have := h.cells (g := g) rfl (j * z + i) v (flat_at hz zs j x i v hx hv)
    rw [add_zero_at] at this
    rw [Nat.zero_add]; exact this
end

/-- 'append(s, x...)' on a slice of the call's own, by whatever lies in x -/
def News (w : World) (size : Nat) (X : Value) (m : Nat) (news : List Value) : Prop :=
  (∃ ad c, X = .slice (some ad) m c ∧ news.length = m * size ∧ ∀ j u, news[j]? = some u → w.cell? (ad.add j) = some u) ∨ (X = .slice none 0 0 ∧ m = 0 ∧ news = [])
theorem News.alloc {w : World} {size : Nat} {X : Value} {m : Nat} {news : List Value} (o : Obj) (h : News w size X m news) : News (w.alloc o) size X m news := by
  rcases h with ⟨ad, c, hX, hl, hc⟩ | h
  · exact .inl ⟨ad, c, hX, hl, fun j u hu => Lib.cell?_alloc_some _ (hc j u hu)⟩
  · exact .inr h
theorem News.below {w w' : World} {size : Nat} {X : Value} {m : Nat} {news : List Value} (h : News w size X m news) (hb : Below w.heap.size w w') : News w' size X m news := by
  rcases h with ⟨ad, c, hX, hl, hc⟩ | h
  · exact .inl ⟨ad, c, hX, hl, fun j u hu => (hb.cell (World.block_lt_of_cell? w _ (hc j u hu))).trans (hc j u hu)⟩
  · exact .inr h
theorem Lies.news {α : Type} {z : Nat} {cells : α → List Value} {n₀ : Nat} {A : World} {sv : Value} {zs : List α} (hz : ∀ x, (cells x).length = z) (h : Lies z cells n₀ A sv zs) : News A z sv zs.length (zs.flatMap cells) := by
  rcases h with ⟨e, rfl⟩ | ⟨b, off, c, e, hb, hc⟩
  · exact .inr ⟨e, rfl, rfl⟩
  · refine .inl ⟨_, _, e, flat_length hz zs, fun t u hu => ?_⟩
    obtain ⟨j, x, i, h1, h2, rfl⟩ := flat_of hz zs t u hu
    rw [Addr.add_lit, ← Nat.add_assoc]
    exact hc j x h1 i u h2
theorem wpList_cats {P : Program} {ops : Array Oper} {rest : List Oper} {o : Oper} {a : Act} {Q : Exit → Act → World → Prop} (hgd : o.guard = none) (s x : Operand) (t : TypeId)
    (ho : o.op = .call { callee := .builtin .append, args := #[s, x], argTypes := #[t, t] })
    (base : Nat) (e : TypeId) (i : TypeInfo) (z : Value) (size bytes : Nat) (ht : P.underlying t = some (.slice e)) (hi : P.info? e = some i) (hz : i.zero = some z)
    (hsize : i.size = size) (hby : i.bytes = bytes) (hzs : z.cells.size = size) (hsz : 0 < size) (hb8 : bytes ≤ 4096) (w : World)
    (v : Value) (n : Nat) (xs : List Value) (hown : w.ownsRow base e size v n xs) (hs : a.eval s = v) (X : Value) (m : Nat) (news : List Value)
    (hx : a.eval x = X) (hN : News w size X m news) (h1 : ∀ u ∈ news, u.oneCell' = true) (hn : n < 4194304) (hm : m < 4194304) (hbase : base ≤ w.heap.size) (N : Nat) (ys : List Value) (hNm : n + m = N) (hys : xs ++ news = ys)
    (h : ∀ A cap w1, w1.ownsRow base e size (.slice A N cap) N ys → Below base w w1 → wpList P ops Q rest (a.put o.dst (.slice A N cap)) w1) : wpList P ops Q (o :: rest) a w := by
  subst hNm hys
  rcases hN with ⟨ad, c, hX, hl, hc⟩ | ⟨hX, hm0, hn0⟩
  · refine wpList_append_own _ hgd s x t ho base e i z size bytes ht hi hz hsize hby hzs hsz v n xs hs hown ad m c news (hx.trans hX) hl hc h1 (by unfold maxLen; omega) ?_ hbase ?_
    · have : (n + m) * bytes ≤ 8388608 * 4096 := Nat.mul_le_mul (by omega) hb8
      omega
    · intro v' w1 hown' hgrow _
      obtain ⟨A, cap, rfl⟩ := own_slice hsz hown'
      exact h _ _ w1 hown' ((Below.refl base w).grown hgrow hbase (fun k hk => (hown.lt k hk).1))
  · subst hm0 hn0
    refine wpList_append_own_none hgd s x t ho base e i size ht hi v n xs hs hown (hx.trans hX) ?_
    obtain ⟨A, cap, rfl⟩ := own_slice hsz hown
    exact h A cap w (by simpa using hown) (Below.refl base w)
end Go.Proofs.YtpchhfhmopmagaaGreat.Li
