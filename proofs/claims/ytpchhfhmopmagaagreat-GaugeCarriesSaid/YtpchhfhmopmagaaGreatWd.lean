/- Words for memory: a slice that reads as a list of cells, nil let in; how it is kept; a new row made and stored into. -/
import Derived.WalkKit
import Derived.WalkSpells
import Derived.WalkLawsBesides
import Derived.Maps.AppendAt
import Derived.Deep.AppendLies
import Derived.Deep.DrawnRows
import Derived.Deep.RegionHeld3
import Derived.BigQuiet
import Derived.Lib.Hide
set_option linter.unusedVariables false
set_option linter.unusedSimpArgs false
namespace Go.Proofs.YtpchhfhmopmagaaGreat.Wd
open Go.RowKit

theorem add_block (a : Addr) (n : Nat) : (a.add n).block = a.block := by unfold Addr.add; split <;> rfl
theorem add_add (a : Addr) (i j : Nat) : (a.add i).add j = a.add (i + j) := by
  unfold Addr.add
  by_cases hi : i = 0 <;> by_cases hj : j = 0 <;> simp [hi, hj, Nat.add_assoc]

/-- 'A' is where 'n' elements lie, of 'z' cells each: 'xs' are the cells; all below block 'B'. -/
def Sl (w : World) (B z : Nat) (A : Option Addr) (n : Nat) (xs : List Value) : Prop :=
  xs.length = n * z ∧ (0 < n → ∃ a, A = some a ∧ a.block < B ∧ ∀ j u, xs[j]? = some u → w.cell? (a.add j) = some u)

section
variable {w w' : World} {B B' z n : Nat} {A : Option Addr} {xs : List Value}
theorem Sl.nil : Sl w B z A 0 [] := ⟨by simp, fun h => absurd h (by omega)⟩
theorem Sl.kept (h : Sl w B z A n xs) (hk : ∀ p : Addr, p.block < B → w'.cell? p = w.cell? p) : Sl w' B z A n xs :=
  ⟨h.1, fun hn => by
    obtain ⟨a, e, hb, hc⟩ := h.2 hn
    exact ⟨a, e, hb, fun j u hu => (hk _ (by rw [add_block]; exact hb)).trans (hc j u hu)⟩⟩
theorem Sl.more (h : Sl w B z A n xs) (hB : B ≤ B') : Sl w B' z A n xs :=
  ⟨h.1, fun hn => by
    obtain ⟨a, e, hb, hc⟩ := h.2 hn
    exact ⟨a, e, by omega, hc⟩⟩
theorem Sl.below (h : Sl w B z A n xs) (hb : Below B w w') : Sl w' B z A n xs := h.kept fun _ hp => hb.cell hp
theorem Sl.drewN (h : Sl w B z A n xs) (k : Nat) : Sl (w.drewN k) B z A n xs := h
theorem Sl.alloc (h : Sl w B z A n xs) (hB : B ≤ w.heap.size) (o : Obj) : Sl (w.alloc o) B z A n xs := h.kept fun p hp => World.cell?_alloc_lt w o p (by omega)
theorem Sl.set (h : Sl w B z A n xs) {p : Addr} (hB : B ≤ p.block) (u : Value) : Sl (w.setCell p u) B z A n xs :=
  h.kept fun q hq => World.cell?_setCell_other w p q u (fun e => by subst e; omega)
theorem Sl.grown (h : Sl w B z A n xs) {row : Option Nat} (hg : w.grownBy w' row) (hB : B ≤ w.heap.size) (hr : ∀ g, row = some g → B ≤ g) : Sl w' B z A n xs :=
  h.kept fun p hp => World.cell?_of_block (hg.block p.block (by omega) (fun e => by have := hr _ e.symm; omega))
/-- one cell of it, one cell an element -/
theorem Sl.cell1 {k : Nat} (h : Sl w B 1 A n xs) (hk : k < n) : ∃ a u, A = some a ∧ a.block < B ∧ xs[k]? = some u ∧ w.cell? (a.add k) = some u := by
  obtain ⟨a, e, hb, hc⟩ := h.2 (by omega)
  have hl : k < xs.length := by have := h.1; omega
  exact ⟨a, xs[k], e, hb, List.getElem?_eq_getElem hl, hc k _ (List.getElem?_eq_getElem hl)⟩
theorem Sl.of_own {base : Nat} {e : TypeId} {c : Nat} (h : w.ownsRow base e z (.slice A n c) n xs) : Sl w w.heap.size z A n xs := by
  refine ⟨h.1, fun hn => ?_⟩
  obtain ⟨g, cap, hv, _, hlt⟩ := h.form hn
  have hA : A = some ⟨g, 0, none⟩ := by injection hv
  subst hA
  exact ⟨_, rfl, hlt, h.cells (g := g) rfl⟩
end

theorem below_drewN {B : Nat} {a w : World} (h : Below B a w) (n : Nat) : Below B a (w.drewN n) := ⟨h.os, h.tape, h.output, h.size, h.block⟩

/-- A row of one-cell elements that the call itself has made, at block 'g'. -/
def Row (w : World) (g : Nat) (e : TypeId) (cs : List Value) : Prop := w.heap[g]? = some (.cells cs.toArray e (0, 0))
section
variable {w w' : World} {g : Nat} {e : TypeId} {cs : List Value}
theorem Row.lt (h : Row w g e cs) : g < w.heap.size := by
  rcases Nat.lt_or_ge g w.heap.size with hlt | hge
  · exact hlt
  · unfold Row at h; rw [Array.getElem?_eq_none hge] at h; cases h
theorem Row.cell (h : Row w g e cs) (i : Nat) : w.cell? ⟨g, i, none⟩ = cs[i]? := by unfold Row at h; simp [World.cell?, h]
theorem Row.frozen (h : Row w g e cs) (i : Nat) : w.frozen? ⟨g, i, none⟩ = false := by unfold Row at h; simp [World.frozen?, h]
theorem Row.drewN (h : Row w g e cs) (k : Nat) : Row (w.drewN k) g e cs := h
theorem Row.alloc (h : Row w g e cs) (o : Obj) : Row (w.alloc o) g e cs := (Below.heap_alloc w o g h.lt).trans h
theorem Row.set (h : Row w g e cs) (i : Nat) (u : Value) : Row (w.setCell ⟨g, i, none⟩ u) g e (cs.set i u) := by
  unfold Row at h ⊢
  simp [World.setCell, Array.getElem?_modify, h]
theorem Row.below {B : Nat} (h : Row w g e cs) (hb : Below B w w') (hg : g < B) : Row w' g e cs := (hb.block g hg).trans h
theorem Row.sl (h : Row w g e cs) {n : Nat} (hn : cs.length = n) : Sl w w.heap.size 1 (some ⟨g, 0, none⟩) n cs := by
  refine ⟨by omega, fun _ => ⟨_, rfl, h.lt, fun j u hu => ?_⟩⟩
  have : ((⟨g, 0, none⟩ : Addr).add j) = ⟨g, j, none⟩ := by unfold Addr.add; split <;> simp_all
  rw [this, h.cell]; exact hu
end
theorem row_new (w : World) (e : TypeId) (cs : List Value) : Row (w.alloc (.cells cs.toArray e)) w.heap.size e cs := heap_alloc_new w _

theorem run_store_float (P : Program) (w : World) (a : Addr) (m : Mode) (k : FloatKind) (b : Nat) : (store a (.float k b) m).run P w = stored P w a (.float k b) m := run_store P w a _ m rfl

theorem own_slice {w : World} {base : Nat} {e : TypeId} {z : Nat} {v : Value} {n : Nat} {xs : List Value} (_hz : 0 < z) (h : w.ownsRow base e z v n xs) : ∃ A c, v = .slice A n c := by
  by_cases h0 : n = 0
  · subst h0
    obtain ⟨h1, h2⟩ := h
    rcases h2 with ⟨rfl, _⟩ | ⟨g, cap, cur, rfl, _⟩
    · exact ⟨_, _, rfl⟩
    · exact ⟨_, _, rfl⟩
  · obtain ⟨g, cap, hv, _⟩ := h.form (by omega)
    exact ⟨_, _, hv⟩

theorem add_zero_at (g j : Nat) : ((⟨g, 0, none⟩ : Addr).add j) = ⟨g, j, none⟩ := by unfold Addr.add; split <;> simp_all

/-- 'out = append(out, x)' on a slice of the call's own, x of whatever size, just built in a new block. -/
theorem wpList_push {P : Program} {ops : Array Oper} {rest : List Oper} {o : Oper} {a : Act} {Q : Exit → Act → World → Prop} (hgd : o.guard = none) (s x : Operand) (t : TypeId)
    (ho : o.op = .call { callee := .builtin .append, args := #[s, x], argTypes := #[t, t] })
    (base : Nat) (e : TypeId) (i : TypeInfo) (z : Value) (size bytes : Nat) (ht : P.underlying t = some (.slice e)) (hi : P.info? e = some i) (hz : i.zero = some z)
    (hsize : i.size = size) (hby : i.bytes = bytes) (hzs : z.cells.size = size) (hsz : 0 < size) (hb8 : bytes ≤ 4096) (w : World)
    (cs : Array Value) (hcs : cs.size = size) (h1 : ∀ u ∈ cs.toList, u.oneCell' = true)
    (v : Value) (n : Nat) (xs : List Value) (hown : w.ownsRow base e size v n xs) (hs : a.eval s = v)
    (hx : a.eval x = .slice (some ⟨w.heap.size, 0, none⟩) 1 1) (hn : n < 16777216) (hbase : base ≤ w.heap.size)
    (h : ∀ A cap w1, w1.ownsRow base e size (.slice A (n + 1) cap) (n + 1) (xs ++ cs.toList) → Below base w w1 → wpList P ops Q rest (a.put o.dst (.slice A (n + 1) cap)) w1) : wpList P ops Q (o :: rest) a (w.alloc (.cells cs e)) := by
  refine wpList_append_own _ hgd s x t ho base e i z size bytes ht hi hz hsize hby hzs hsz v n xs hs (hown.alloc _) ⟨w.heap.size, 0, none⟩ 1 1 cs.toList hx (by simp [hcs]) (fun j u hu => ?_) h1 (by unfold maxLen; omega) ?_ (by simp; omega) ?_
  · rw [add_zero_at]
    have hh := heap_alloc_new w (.cells cs e)
    simp only [World.cell?, hh]
    simpa using hu
  · have : (n + 1) * bytes ≤ 16777217 * 4096 := Nat.mul_le_mul (by omega) hb8
    omega
  · intro v' w1 hown' hgrow _
    obtain ⟨g, cap, hv, _, _⟩ := hown'.form (by omega)
    subst hv
    refine h _ _ w1 hown' (((Below.refl base w).alloc hbase _).grown hgrow (by simp; omega) ?_)
    intro k hk
    exact (hown.lt k hk).1

end Go.Proofs.YtpchhfhmopmagaaGreat.Wd
