/- A tree outlives a store into a cell that holds a truth value. -/
import Derived.Test.YtdoemgccmjddcaaPc1
namespace Go.Proofs.Ytdoemgccmjddcaa.Pa
open Go.RowKit Go.Maps Go.Proofs.Ytdoemgccmjddcaa.Wd Go.Proofs.Ytdoemgccmjddcaa.Mp Go.Proofs.Ytdoemgccmjddcaa.Tp Go.Proofs.Ytdoemgccmjddcaa.Tr Go.Proofs.Ytdoemgccmjddcaa.Cl Go.Proofs.Ytdoemgccmjddcaa.So

/-- a slice of ints lies apart from a cell that holds a truth value -/
theorem sl_set {w : World} {B n : Nat} {A : Option Addr} {zs : List Int} {p : Addr} {q : Bool} (h : Sl w B 1 A n (St.I zs)) (hp : w.cell? p = some (.bool q)) (v : Value) : Sl (w.setCell p v) B 1 A n (St.I zs) :=
  ⟨h.1, fun h0 => by
    obtain ⟨a, ha, hb, hc⟩ := h.2 h0
    refine ⟨a, ha, hb, fun j u hu => (World.cell?_setCell_other w p (a.add j) v (fun e => ?_)).trans (hc j u hu)⟩
    have h2 := hc j u hu
    rw [← e, hp] at h2
    unfold St.I at hu
    rw [List.getElem?_map] at hu
    obtain ⟨y, _, rfl⟩ := Option.map_eq_some_iff.1 hu
    injection h2 with h2; cases h2⟩
theorem at_map {α : Type} {agg : α → Value} {enc : α → DataW Unit} {zero : α} {P : Program} {k : TypeId} {w : World} {b n : Nat} {f : Int → Option α} (h : At agg enc zero P k w b n f) : ∃ es m, w.heap[b]? = some (.map es m) := by
  obtain ⟨D, ⟨es, ck, hm, _⟩, _⟩ := h
  exact ⟨es, ck, hm⟩
theorem tree_set {w : World} {B T : Nat} {l : List Cls} (t : TreeAt w B T l) {g : Nat} {cs : List Value} (hr : Row w g 64 cs) {q : Bool} (k : Nat) (hk : cs[k]? = some (.bool q)) (v : Value) : TreeAt (w.setCell ⟨g, k, none⟩ v) B T l := by
  obtain ⟨h, A, c, kf, rfl, hT, h1, h2, h3, h4, h5, h6⟩ := t
  have hp : w.cell? ⟨g, k, none⟩ = some (.bool q) := by rw [hr.cell]; exact hk
  have hne : ∀ b, b < w.heap.size → b ≠ g → (w.setCell ⟨g, k, none⟩ v).heap[b]? = w.heap[b]? := fun b _ e => Below.heap_setCell w ⟨g, k, none⟩ v b e
  have hl1 := (Array.getElem?_eq_some_iff.1 h1).1
  have hrg : w.heap[g]? = some (.cells cs.toArray 64 (0, 0)) := hr
  have hmap : ∀ b, (∃ es m, w.heap[b]? = some (.map es m)) → b ≠ g := fun b ⟨es, m, e⟩ e' => by subst e'; rw [hrg] at e; cases e
  refine ⟨h, A, c, kf, rfl, hT, ?_, sl_set h2 hp v, ?_, ?_, fun id => ?_, ?_⟩
  · rw [hne _ hl1 (fun e => by rw [e, hrg] at h1; cases h1)]; exact h1
  · exact h3.block (hne _ h3.lt (hmap _ (at_map h3)))
  · exact h4.block (hne _ h4.lt (hmap _ (at_map h4)))
  · obtain ⟨A', c', e, hs⟩ := h5 id
    exact ⟨A', c', e, sl_set hs hp v⟩
  · exact h6.block (hne _ h6.lt (hmap _ (at_map h6)))
end Go.Proofs.Ytdoemgccmjddcaa.Pa
