/- Slices of structs, and of whole numbers, handed in: opened (generic). -/
import Derived.Test.YtdankjhjmaehiaaLi
import Derived.Test.YtdankjhjmaehiaaStM
import Derived.ProofKit
import Derived.OpenShut
import Derived.Deep.Slices
import Derived.Deep.Fields
import Derived.Laws.Cover2
namespace Go.Proofs.Ytdankjhjmaehiaa.Opn
open Go.RowKit Go.ChangeShapes Go.WideShapes Go.Deep Wd Li
section
variable {H : Type} {enc : TypeId × Value → H} {w : World} {base : Nat} {spare : Nat → Bool} {held : Bool}

theorem slice_wide {P : Program} {r : Reach} {b0 : Nat} {t e : TypeId} {v : Value} (ht : P.underlying t = some (.slice e)) (hv : Value.okWide P w r b0 t v) :
    v = .slice none 0 0 ∨ ∃ b off len cap, v = .slice (some ⟨b, off, none⟩) len cap ∧ b < w.heap.size ∧ len ≤ cap := by
  obtain ⟨a, len, cap, rfl⟩ := okWide_slice ht hv
  simp only [Value.okWide, ht, Cell.okWide] at hv
  cases a with
  | none =>
    cases len with
    | zero =>
      cases cap with
      | zero => exact .inl rfl
      | succ n => simp [Cell.ok, ht] at hv
    | succ n => simp [Cell.ok, ht] at hv
  | some a =>
    simp only [Cell.ok, ht] at hv
    obtain ⟨h3, _, _, hs, row, n, h4, _⟩ := hv
    obtain ⟨b, off, sp⟩ := a
    simp only at hs h4
    subst hs
    refine .inr ⟨b, off, len, cap, rfl, ?_, h3⟩
    unfold World.shape? at h4
    rcases Nat.lt_or_ge b w.heap.size with h5 | h5
    · exact h5
    · rw [Array.getElem?_eq_none h5] at h4; cases h4

/-- A slice of structs handed in, whatever the struct: what reads its cells is handed over ('one'). -/
theorem open_lies {P : Program} {α : Type} [Inhabited α] {z : Nat} {cells : α → List Value} {good : α → Prop} {t e : TypeId} (ht : P.underlying t = some (.slice e)) (hC : P.cellsOf e = z)
    (one : ∀ (fuel : Nat) (cs : List Value) (x : DataW H × List MemPlace), DataW.trod enc P w base spare held fuel e cs = some x → ∃ c : α, cs = cells c ∧ good c) (hz : ∀ c, (cells c).length = z)
    {r : Reach} {b0 : Nat} {v : Value} {d : DataW H} {p : List MemPlace} (hv : Value.okWide P w r b0 t v) (h : DataW.Trod enc P w base spare held t v d p) :
    ∃ zs : List α, (∀ (j : Nat) (x : α), zs[j]? = some x → good x) ∧ Lies z cells w.heap.size w v zs ∧ ∃ A len cap, v = .slice A len cap := by
  rcases slice_wide ht hv with rfl | ⟨b, off, len, cap, rfl, hb, hlc⟩
  · exact ⟨[], (fun j x hx => by simp at hx), .inl ⟨rfl, rfl⟩, _, _, _, rfl⟩
  · obtain ⟨fuel, hf⟩ := h
    rcases open_slice ht hf with ⟨e, _⟩ | ⟨a, len', cap', m, n, D, Pl, e, hba, hlc', _, hm, _, hel⟩
    · cases e
    · cases e
      have hml : len ≤ m := by rw [hm]; split <;> omega
      rw [hC] at hel
      obtain ⟨f, hfc⟩ := choose_lt (α := α) (n := len) (p := fun i c => w.cells? base ((⟨b, off, none⟩ : Addr).add (i * z)) z = some (cells c) ∧ good c) (fun i hi => by
        obtain ⟨cs, h1, h2⟩ := hel i (by omega)
        obtain ⟨c, rfl, hs⟩ := one _ _ _ h2
        exact ⟨c, h1, hs⟩)
      refine ⟨(List.range len).map f, fun j x hx => ?_, .inr ⟨b, off, cap, by simp, hb, fun j x hx i v hv => ?_⟩, _, _, _, rfl⟩
      · have hj : j < len := by simpa using (List.getElem?_eq_some_iff.1 hx).1
        have hxf : x = f j := by simpa [hj, eq_comm] using hx
        rw [hxf]; exact (hfc j hj).2
      · have hj : j < len := by simpa using (List.getElem?_eq_some_iff.1 hx).1
        have hxf : x = f j := by simpa [hj, eq_comm] using hx
        subst hxf
        obtain ⟨h1, _⟩ := hfc j hj
        have hi : i < z := by have := (List.getElem?_eq_some_iff.1 hv).1; rw [hz] at this; exact this
        have h2 := (World.cells?_some h1).2.2 i hi
        rw [Wd.add_add, Addr.add_lit, hv] at h2
        rw [Nat.add_assoc]; exact h2


theorem int_of_trod {fuel : Nat} {cs : List Value} {x : DataW H × List MemPlace} (h : DataW.trod enc Try.prog w base spare held fuel 3 cs = some x) :
    ∃ c : Int, cs = [Value.int .i64 c] ∧ (Lit.int .i64 c).wf = true := by
  obtain ⟨z, e, _, wf⟩ := DataW.trod_int Try.underlying3 h
  exact ⟨z, e, wf⟩
theorem flat_ints (zs : List Int) : zs.flatMap (fun c => [Value.int .i64 c]) = St.I zs := by
  induction zs with
  | nil => rfl
  | cons x l ih => rw [List.flatMap_cons, ih]; rfl
set_option maxRecDepth 20000 in
theorem open_intl {r : Reach} {b0 : Nat} {v : Value} {d : DataW H} {p : List MemPlace} (hv : Value.okWide Try.prog w r b0 44 v) (h : DataW.Trod enc Try.prog w base spare held 44 v d p) :
    ∃ zs : List Int, (∀ (j : Nat) (x : Int), zs[j]? = some x → (Lit.int .i64 x).wf = true) ∧ ∃ A cap, v = .slice A zs.length cap ∧ Sl w w.heap.size 1 A zs.length (St.I zs) := by
  obtain ⟨zs, hg, hl, A, len, cap, rfl⟩ := open_lies (α := Int) (z := 1) (cells := fun c => [Value.int .i64 c]) Try.underlying44 (by kernel_rfl) (fun _ _ _ h => int_of_trod h) (fun _ => rfl) hv h
  obtain ⟨rfl, hc⟩ := hl.parts
  refine ⟨zs, hg, A, cap, rfl, ?_⟩
  refine ⟨by simp [St.I], fun hn => ?_⟩
  obtain ⟨b, off, rfl, hb, hcs⟩ := hc hn
  refine ⟨_, rfl, hb, fun j u hu => ?_⟩
  unfold St.I at hu
  simp only [List.getElem?_map] at hu
  obtain ⟨x, hx, rfl⟩ := Option.map_eq_some_iff.1 hu
  rw [Addr.add_lit]
  have := hcs j x hx 0 _ rfl
  simpa using this
end
end Go.Proofs.Ytdankjhjmaehiaa.Opn
