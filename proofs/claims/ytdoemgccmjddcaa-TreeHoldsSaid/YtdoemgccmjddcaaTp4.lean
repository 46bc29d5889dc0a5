/- Classes laid into maps, one by one. -/
import Derived.Test.YtdoemgccmjddcaaTp3
import Derived.Test.YtdoemgccmjddcaaMp
namespace Go.Proofs.Ytdoemgccmjddcaa.Tp
open Go.Proofs.Ytdoemgccmjddcaa.Cl Go.Proofs.Ytdoemgccmjddcaa.So
variable {l : List Cls}

/-- the children among the first k, in the order of the ids -/
def kidsP (l : List Cls) (k : Nat) (id : Int) : List Int := (((sortC l).take k).filter (fun c => decide (c.parent = id ∧ id ≠ 0))).map Cls.id
def clsF (l : List Cls) (k : Nat) : Int → Option Cls := ((sortC l).take k).foldl (fun f x => fun i => if i = x.id then some x else f i) (fun _ => none)
theorem kidsP_zero (id : Int) : kidsP l 0 id = [] := rfl
theorem kidsP_all (id : Int) : kidsP l (sortC l).length id = kids l id := by unfold kidsP; rw [List.take_length]; rfl
theorem kidsP_in {k : Nat} {x : Cls} (h : (sortC l)[k]? = some x) (hp : x.parent ≠ 0) : kidsP l (k + 1) x.parent = kidsP l k x.parent ++ [x.id] := by
  unfold kidsP; rw [List.take_add_one, h, List.filter_append, List.map_append]; simp [hp]
theorem kidsP_out {k : Nat} {x : Cls} (h : (sortC l)[k]? = some x) {id : Int} (hp : id ≠ x.parent ∨ x.parent = 0) : kidsP l (k + 1) id = kidsP l k id := by
  unfold kidsP; rw [List.take_add_one, h, List.filter_append, List.map_append]
  have : (Option.toList (some x)).filter (fun c => decide (c.parent = id ∧ id ≠ 0)) = [] := by
    simp; rintro rfl; rcases hp with h | h
    · exact absurd rfl h
    · exact h
  rw [this]; simp
theorem kidsP_len (k : Nat) (id : Int) : (kidsP l k id).length ≤ k := by
  unfold kidsP; rw [List.length_map]
  exact Nat.le_trans (List.length_filter_le _ _) (List.length_take_le _ _)
theorem clsF_zero : clsF l 0 = fun _ => none := rfl
theorem clsF_succ {k : Nat} {x : Cls} (h : (sortC l)[k]? = some x) : clsF l (k + 1) = fun i => if i = x.id then some x else clsF l k i := by
  unfold clsF; rw [List.take_add_one, h, List.foldl_append]; rfl
theorem fold_hit {c : Cls} : ∀ (xs : List Cls) (f : Int → Option Cls), (∀ x ∈ xs, x.id = c.id → x = c) → (f c.id = some c ∨ c ∈ xs) → (xs.foldl (fun f x => fun i => if i = x.id then some x else f i) f) c.id = some c
  | [], f, _, h => by rcases h with h | h; · exact h
                      · cases h
  | x :: xs, f, hu, h => by
    rw [List.foldl_cons]
    refine fold_hit xs _ (fun y hy => hu y (List.mem_cons_of_mem _ hy)) ?_
    by_cases hx : c.id = x.id
    · left
      have := hu x List.mem_cons_self hx.symm
      subst this
      simp
    · rcases h with h | h
      · left; simp only [if_neg hx]; exact h
      · rcases List.mem_cons.1 h with rfl | h
        · exact absurd rfl hx
        · exact .inr h
theorem fold_miss {i : Int} : ∀ (xs : List Cls) (f : Int → Option Cls), (∀ x ∈ xs, x.id ≠ i) → f i = none → (xs.foldl (fun f x => fun i => if i = x.id then some x else f i) f) i = none
  | [], f, _, h => h
  | x :: xs, f, hu, h => by
    rw [List.foldl_cons]
    refine fold_miss xs _ (fun y hy => hu y (List.mem_cons_of_mem _ hy)) ?_
    simp only [if_neg (Ne.symm (hu x List.mem_cons_self))]
    exact h
theorem clsF_all (G : Good l) : clsF l (sortC l).length = at? l := by
  funext i
  unfold clsF
  rw [List.take_length]
  cases h : at? l i with
  | none =>
    refine fold_miss _ _ (fun x hx e => ?_) rfl
    have := at_none.1 h
    exact this (List.mem_map.2 ⟨x, sort_mem.1 hx, e⟩)
  | some c =>
    obtain ⟨hc, rfl⟩ := at_mem h
    exact fold_hit _ _ (fun x hx e => nodup_inj G.nodup (sort_mem.1 hx) hc e) (.inr (sort_mem.2 hc))
theorem sort_at {k : Nat} {x : Cls} (h : (sortC l)[k]? = some x) : x ∈ l := sort_mem.1 (List.mem_of_getElem? h)
/-- classes as elements of a map -/
def clsV (c : Cls) : Go.Value := .agg #[.int .i64 c.id, .int .i64 c.parent, .float .f64 c.share, .int .i64 c.prio, .int .i64 c.quantum, .int .i64 c.limit, .int .i64 c.weight, .int .i64 c.minIdle, .int .i64 c.maxIdle, .bool c.bounded, .bool c.isolated]
def clsE (c : Cls) : Go.DataW Unit := .agg [.lit (.int .i64 c.id), .lit (.int .i64 c.parent), .lit (.int .i64 (c.share : Int)), .lit (.int .i64 c.prio), .lit (.int .i64 c.quantum), .lit (.int .i64 c.limit), .lit (.int .i64 c.weight), .lit (.int .i64 c.minIdle), .lit (.int .i64 c.maxIdle), .lit (.bool c.bounded), .lit (.bool c.isolated)]
def clsZ : Cls := ⟨0, 0, 0, 0, 0, 0, 0, 0, 0, false, false⟩
theorem cls_kind : Mp.Kind clsV clsE where
  agg a b h := by
    obtain ⟨a1, a2, a3, a4, a5, a6, a7, a8, a9, a10, a11⟩ := a
    obtain ⟨b1, b2, b3, b4, b5, b6, b7, b8, b9, b10, b11⟩ := b
    simp [clsV] at h
    simp [h]
  enc a b h := by
    obtain ⟨a1, a2, a3, a4, a5, a6, a7, a8, a9, a10, a11⟩ := a
    obtain ⟨b1, b2, b3, b4, b5, b6, b7, b8, b9, b10, b11⟩ := b
    simp [clsE] at h
    have h3 : a3 = b3 := by have := h.2.2.1; omega
    simp [h, h3]
end Go.Proofs.Ytdoemgccmjddcaa.Tp
