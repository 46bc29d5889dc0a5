/- The functions that went is handed; Delays, Bytes, Parts. -/
import Derived.Test.YtdoemgccmjddcaaSr5
import Derived.Shelf.Abstract
namespace Go.Proofs.Ytdoemgccmjddcaa.Sr
open Go.RowKit Go.Maps Go.Shelf Wd Li St

theorem store_at {w : World} {G : Nat} {u v : Value} {t : TypeId} (h : w.heap[G]? = some (.cells #[u] t (0, 0))) : (w.setCell ⟨G, 0, none⟩ v).heap[G]? = some (.cells #[v] t (0, 0)) := by
  simp [World.setCell, Array.getElem?_modify, h]
theorem cell_at {w : World} {G : Nat} {u : Value} {t : TypeId} (h : w.heap[G]? = some (.cells #[u] t (0, 0))) : w.cell? ⟨G, 0, none⟩ = some u := by
  simp [World.cell?, h]
theorem frozen_at {w : World} {G : Nat} {u : Value} {t : TypeId} (h : w.heap[G]? = some (.cells #[u] t (0, 0))) : w.frozen? ⟨G, 0, none⟩ = false := by
  simp [World.frozen?, h]
theorem grown_set (w : World) (G : Nat) (v : Value) : w.grownBy (w.setCell ⟨G, 0, none⟩ v) (some G) :=
  ⟨rfl, rfl, rfl, by simp [World.setCell], fun k _ hk => Below.heap_setCell _ _ _ _ (fun e => hk (by rw [e]))⟩
theorem maps_grown {w w' : World} {G : Nat} {u : Value} {t : TypeId} (h : w.heap[G]? = some (.cells #[u] t (0, 0))) (hg : w.grownBy w' (some G)) : MapsKept w w' :=
  fun k es ck hk => (hg.block k (lt_of_get hk) (fun e => by cases e; rw [h] at hk; cases hk)).trans hk

/-- what a function that adds to a variable leaves -/
def Adds (w : World) (G : Nat) (n : Int) (e : Ending) (w' : World) : Prop := ∃ v, e = .returned v ∧ w'.heap[G]? = some (.cells #[.int .i64 n] 3 (0, 0)) ∧ w.grownBy w' (some G)

theorem adds_two {w : World} {G : Nat} {u : Value} {n m : Int} {o1 o2 : Obj} (h : w.heap[G]? = some (.cells #[u] 3 (0, 0))) (e : n = m) : Adds w G m (.returned (.tuple #[])) (((w.setCell ⟨G, 0, none⟩ (.int .i64 n)).alloc o1).alloc o2) := by
  subst e
  have hs := store_at (v := .int .i64 n) h
  have h2 := (Below.heap_alloc _ o1 _ (lt_of_get hs)).trans hs
  exact ⟨_, rfl, (Below.heap_alloc _ o2 _ (lt_of_get h2)).trans h2, (grown_set w G _).trans ((World.grownBy_alloc _ _ _).trans (World.grownBy_alloc _ _ _))⟩
set_option maxRecDepth 20000 in
set_option maxHeartbeats 1000000 in
theorem parts1_c (x y : En) (G n : Nat) (w : World) (hG : w.heap[G]? = some (.cells #[.int .i64 n] 3 (0, 0))) (hn : n + y.raw.size < 4611686018427387904) :
    Calls Try.prog 109 #[x.agg, y.agg, .pointer (some ⟨G, 0, none⟩)] w (Adds w G (n + y.raw.size : Nat)) := by
  have hlt := lt_of_get hG
  have hne : ¬ w.heap.size = G := by omega
  have hne2 : ¬ w.heap.size + 1 = G := by omega
  have hc := cell_at hG
  have hf := frozen_at hG
  have HG := Lib.hid hG
  clear hG
  unfold En.agg
  go_enter Try.func109, Try.ntmps109
  go_wp2
  (try simp only [Exit.inBlock, Exit.then])
  refine bodyPost_ret (results_none rfl _ _ _) rfl ?_
  exact adds_two HG.out (by simp)

def sumRaw (f : En → Bool) (ps : List (En × En)) : Nat := ps.foldl (fun n p => if f p.1 then n + p.2.raw.size else n) 0
theorem sumRaw_snoc (f : En → Bool) (ps : List (En × En)) (x y : En) : sumRaw f (ps ++ [(x, y)]) = if f x then sumRaw f ps + y.raw.size else sumRaw f ps := by
  unfold sumRaw; rw [List.foldl_append]; rfl
def Short (ps : List (En × En)) : Prop := ∀ p ∈ ps, p.2.raw.size ≤ 2100
theorem sumRaw_from (f : En → Bool) (ps : List (En × En)) (h : Short ps) : ∀ n, ps.foldl (fun n p => if f p.1 then n + p.2.raw.size else n) n ≤ n + 2100 * ps.length := by
  induction ps with
  | nil => intro n; simp
  | cons p ps ih =>
    intro n
    have h1 := h p (by simp)
    have h2 := ih (fun q hq => h q (by simp [hq]))
    rw [List.foldl_cons, List.length_cons]
    split
    · have := h2 (n + p.2.raw.size); omega
    · have := h2 n; omega
theorem sumRaw_le (f : En → Bool) (ps : List (En × En)) (h : Short ps) : sumRaw f ps ≤ 2100 * ps.length := by
  have := sumRaw_from f ps h 0
  unfold sumRaw; omega
theorem went_short {l : List En} (hl : ∀ (j : Nat) (x : En), l[j]? = some x → x.raw.size ≤ 2100) : ∀ k, Short (went l k)
  | 0 => fun p h => by cases h
  | k + 1 => fun p h => by
    have h : p ∈ went l k ++ went1 l k := h
    rcases List.mem_append.1 h with h | h
    · exact went_short hl k p h
    · unfold went1 at h
      split at h
      · split at h
        · split at h
          · rename_i hy
            simp at h; subst h
            exact hl _ _ hy
          · cases h
        · cases h
      · cases h

set_option maxRecDepth 20000 in
set_option maxHeartbeats 1000000 in
theorem bytes1_c (x y : En) (leaf : Int) (L G n : Nat) (w : World) (hL : w.heap[L]? = some (.cells #[.int .i64 leaf] 3 (0, 0))) (hG : w.heap[G]? = some (.cells #[.int .i64 n] 3 (0, 0))) (hn : n + y.raw.size < 4611686018427387904) :
    Calls Try.prog 114 #[x.agg, y.agg, .pointer (some ⟨L, 0, none⟩), .pointer (some ⟨G, 0, none⟩)] w (Adds w G ((if x.leaf == leaf then n + y.raw.size else n : Nat) : Int)) := by
  have hlt := lt_of_get hG
  have hltL := lt_of_get hL
  have hne : ¬ w.heap.size = G := by omega
  have hne2 : ¬ w.heap.size + 1 = G := by omega
  have hneL : ¬ w.heap.size = L := by omega
  have hneL2 : ¬ w.heap.size + 1 = L := by omega
  have hc := cell_at hG
  have hf := frozen_at hG
  have hcL := cell_at hL
  have HG := Lib.hid hG
  clear hG hL
  unfold En.agg
  by_cases h : x.leaf = leaf
  · have e : (x.leaf == leaf) = true := by rw [beq_iff_eq]; exact h
    clear h
    go_enter Try.func114, Try.ntmps114
    go_wp2
    (try simp only [Exit.inBlock, Exit.then])
    refine bodyPost_ret (results_none rfl _ _ _) rfl ?_
    try rw [if_pos e]
    exact adds_two HG.out (by simp)
  · have e : (x.leaf == leaf) = false := by rw [beq_eq_false_iff_ne]; exact h
    clear h
    go_enter Try.func114, Try.ntmps114
    go_wp2
    (try simp only [Exit.inBlock, Exit.then])
    refine bodyPost_ret (results_none rfl _ _ _) rfl ?_
    try rw [if_neg (by rw [e]; decide)]
    exact ⟨_, rfl, (Below.heap_alloc _ _ _ (by simp; omega)).trans ((Below.heap_alloc _ _ _ hlt).trans HG.out), (World.grownBy_alloc w _ _).trans (World.grownBy_alloc _ _ _)⟩

/-- the relation of went's rounds, where the function adds up -/
def Sums (f : En → Bool) (G L : Nat) (leaf : Int) (w0 : World) (ps : List (En × En)) (u : World) : Prop :=
  u.heap[G]? = some (.cells #[.int .i64 (sumRaw f ps)] 3 (0, 0)) ∧ (u.heap[L]? = some (.cells #[.int .i64 leaf] 3 (0, 0)) ∨ L = G) ∧ Below w0.heap.size w0 u ∧ Short ps
theorem Sums.kept {f : En → Bool} {G L : Nat} {leaf : Int} {w0 : World} {ps : List (En × En)} {u u2 : World} {B : Nat} (hB : w0.heap.size ≤ B) (h : Sums f G L leaf w0 ps u) (hc : CellsKept u u2) (hb : Below B u u2) : Sums f G L leaf w0 ps u2 := by
  obtain ⟨h1, h2, h3, h4⟩ := h
  exact ⟨hc.blk _ _ _ _ h1, h2.imp (hc.blk _ _ _ _) id, h3.trans (hb.mono hB), h4⟩
theorem Sums.next {f : En → Bool} {G L : Nat} {leaf : Int} {w0 : World} {ps : List (En × En)} {u u2 : World} {e : Ending} {x y : En} (hG : w0.heap.size ≤ G) (h : Sums f G L leaf w0 ps u) (hy : y.raw.size ≤ 2100) (ha : Adds u G ((if f x then sumRaw f ps + y.raw.size else sumRaw f ps : Nat) : Int) e u2) :
    ∃ v, e = .returned v ∧ Sums f G L leaf w0 (ps ++ [(x, y)]) u2 ∧ MapsKept u u2 ∧ u.heap.size ≤ u2.heap.size := by
  obtain ⟨h1, h2, h3, h4⟩ := h
  obtain ⟨v, he, hg, hgr⟩ := ha
  refine ⟨v, he, ⟨by rw [hg, sumRaw_snoc], ?_, h3.grown hgr h3.size (fun k hk => by cases hk; exact hG), ?_⟩, maps_grown h1 hgr, hgr.size⟩
  · rcases h2 with h2 | h2
    · by_cases e : L = G
      · exact .inr e
      · exact .inl ((hgr.block L (lt_of_get h2) (fun h => e (by injection h))).trans h2)
    · exact .inr h2
  · intro p hp
    rcases List.mem_append.1 hp with hp | hp
    · exact h4 p hp
    · simp at hp; subst hp; exact hy

set_option maxRecDepth 20000 in
set_option maxHeartbeats 1000000 in
theorem bytes_c (A : Option Addr) (n c : Nat) (leaf : Int) (l : List En) (hlen : l.length ≤ 1048576) (hwf : ∀ (j : Nat) (x : En), l[j]? = some x → (Lit.int .i64 x.seq).wf = true) (hl : ∀ (j : Nat) (x : En), l[j]? = some x → x.raw.size ≤ 2100) (w : World) (hI : Ls w.heap.size w (.slice A n c) l) :
    Calls Try.prog 36 #[.slice A n c, .int .i64 leaf] w fun e w' => e = .returned (.int .i64 (sumRaw (fun x => x.leaf == leaf) (went l l.length))) ∧ Below w.heap.size w w' := by
  have hw := went_c 114 #[.pointer (some ⟨w.heap.size, 0, none⟩), .pointer (some ⟨w.heap.size + 1, 0, none⟩)] A n c l hlen hwf (Sums (fun x => x.leaf == leaf) (w.heap.size + 1) w.heap.size leaf w)
    (enters_of Try.func114 (by kernel_rfl) rfl)
    (fun ps u h => (hI.below h.2.2.1).up h.2.2.1.size)
    (fun ps x y u h hx hy hps => by
      obtain ⟨j, hj⟩ := List.getElem?_of_mem hy
      have hr := hl j y hj
      have hs := sumRaw_le (fun x => x.leaf == leaf) ps h.2.2.2
      have hL : u.heap[w.heap.size]? = some (.cells #[.int .i64 leaf] 3 (0, 0)) := h.2.1.resolve_right (by omega)
      exact (bytes1_c x y leaf w.heap.size (w.heap.size + 1) _ u hL h.1 (by omega)).mono (fun e u2 ha => h.next (by omega) hr ha))
    ((w.alloc (.cells #[.int .i64 leaf] 3)).alloc (.cells #[.int .i64 0] 3))
    (fun ps u1 u2 h hc hb => h.kept (by simp; omega) hc hb)
    ⟨by have := heap_alloc_new (w.alloc (.cells #[.int .i64 leaf] 3)) (.cells #[.int .i64 0] 3); simpa [sumRaw] using this,
      .inl (by
        have h1 := heap_alloc_new w (.cells #[.int .i64 leaf] 3)
        exact (Below.heap_alloc _ _ _ (by simp)).trans h1),
      ((Below.refl _ w).alloc (Nat.le_refl _) _).alloc (by simp) _, fun p h => by cases h⟩
  have HW := Lib.hid hw
  clear hw hI hl hwf
  go_enter Try.func36, Try.ntmps36
  go_wp2_with (go_at_call 108; refine (HW.out).mono ?_; rintro e w2 ⟨v, rfl, hs⟩; have hcell := cell_at hs.1; have HB := Lib.hid hs.2.2.1; clear hs)
  go_ret
  exact ⟨rfl, HB.out⟩
end Go.Proofs.Ytdoemgccmjddcaa.Sr
