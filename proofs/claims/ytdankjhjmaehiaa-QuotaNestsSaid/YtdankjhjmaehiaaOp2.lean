/- A slice of classes, handed in: opened. -/
import Derived.Test.YtdankjhjmaehiaaSsM
import Derived.Test.YtdankjhjmaehiaaOp
namespace Go.Proofs.Ytdankjhjmaehiaa.Op
open Go.RowKit Go.ChangeShapes Go.WideShapes Go.Deep Fl Wd Cl Go.Proofs.Ytdankjhjmaehiaa.So
section
variable {H : Type} {enc : TypeId × Value → H} {w : World} {base : Nat} {spare : Nat → Bool} {held : Bool}

theorem slice_wide {P : Program} {r : Reach} {b0 : Nat} {t e : TypeId} {v : Value} (ht : P.underlying t = some (.slice e)) (hv : Value.okWide P w r b0 t v) :
    v = .slice none 0 0 ∨ ∃ b off len cap, v = .slice (some ⟨b, off, none⟩) len cap ∧ b < w.heap.size ∧ len ≤ cap := by
  obtain ⟨a, len, cap, rfl⟩ := okWide_slice ht hv
  simp only [Value.okWide, ht, Cell.okWide] at hv
  cases a with
  | none =>
    cases len with
    | zero =>
      cases cap with
      | zero => exact .inl rfl
      | succ n => simp [Cell.ok, ht] at hv
    | succ n => simp [Cell.ok, ht] at hv
  | some a =>
    simp only [Cell.ok, ht] at hv
    obtain ⟨h3, _, _, hs, row, n, h4, _⟩ := hv
    obtain ⟨b, off, sp⟩ := a
    simp only at hs h4
    subst hs
    refine .inr ⟨b, off, len, cap, rfl, ?_, h3⟩
    unfold World.shape? at h4
    rcases Nat.lt_or_ge b w.heap.size with h5 | h5
    · exact h5
    · rw [Array.getElem?_eq_none h5] at h4; cases h4

set_option maxRecDepth 20000 in
theorem open_clss {r : Reach} {b0 : Nat} {v : Value} {d : DataW H} {p : List MemPlace} (hv : Value.okWide Try.prog w r b0 22 v) (h : DataW.Trod enc Try.prog w base spare held 22 v d p) :
    ∃ zs : List Cls, (∀ z ∈ zs, z.share < 18446744073709551616) ∧ Holds w.heap.size w v zs ∧ ∃ A len cap, v = .slice A len cap := by
  rcases slice_wide Try.underlying22 hv with rfl | ⟨b, off, len, cap, rfl, hb, hlc⟩
  · exact ⟨[], (fun z hz => by simp at hz), .inl ⟨rfl, rfl⟩, _, _, _, rfl⟩
  · obtain ⟨fuel, hf⟩ := h
    rcases open_slice Try.underlying22 hf with ⟨e, _⟩ | ⟨a, len', cap', m, n, D, Pl, e, hba, hlc', _, hm, _, hel⟩
    · cases e
    · cases e
      have hml : len ≤ m := by rw [hm]; split <;> omega
      have hC : Try.prog.cellsOf 60 = 11 := by kernel_rfl
      rw [hC] at hel
      haveI : Inhabited Cls := ⟨⟨0, 0, 0, 0, 0, 0, 0, 0, 0, false, false⟩⟩
      obtain ⟨f, hfc⟩ := choose_lt (α := Cls) (n := len) (p := fun i c => w.cells? base ((⟨b, off, none⟩ : Addr).add (i * 11)) 11 = some c.cells ∧ c.share < 18446744073709551616) (fun i hi => by
        obtain ⟨cs, h1, h2⟩ := hel i (by omega)
        obtain ⟨c, rfl, hs⟩ := cls_of_trod h2
        exact ⟨c, h1, hs⟩)
      refine ⟨(List.range len).map f, fun z hz => ?_, .inr ⟨b, off, cap, by simp, hb, fun j x hx i v hv => ?_⟩, _, _, _, rfl⟩
      · obtain ⟨i, hi, rfl⟩ := List.mem_map.1 hz
        exact (hfc i (List.mem_range.1 hi)).2
      · have hj : j < len := by simpa using (List.getElem?_eq_some_iff.1 hx).1
        have hxf : x = f j := by simpa [hj, eq_comm] using hx
        subst hxf
        obtain ⟨h1, _⟩ := hfc j hj
        have hi : i < 11 := (List.getElem?_eq_some_iff.1 hv).1
        have h2 := (World.cells?_some h1).2.2 i hi
        rw [Wd.add_add, Addr.add_lit, hv] at h2
        rw [Nat.add_assoc]; exact h2
end
end Go.Proofs.Ytdankjhjmaehiaa.Op
