/- Arguments opened: two whole numbers. -/
import Derived.Test.YtdankjhjmaehiaaOp
namespace Go.Proofs.Ytdankjhjmaehiaa.Op
open Go.RowKit Go.ChangeShapes Go.WideShapes Go.Deep Fl Wd Cl
section
variable {H : Type} {enc : TypeId × Value → H} {w : World} {base : Nat} {spare : Nat → Bool} {held : Bool}

set_option maxRecDepth 20000 in
/-- two whole numbers with a sign, an array by value -/
theorem open_ints {r : Reach} {b0 : Nat} {v : Value} {d : DataW H} {p : List MemPlace} (hv : Value.okWide Try.prog w r b0 23 v) (h : DataW.Trod enc Try.prog w base spare held 23 v d p) :
    ∃ a b : Int, v = .agg #[.int .i64 a, .int .i64 b] ∧ (Lit.int .i64 a).wf = true ∧ (Lit.int .i64 b).wf = true := by
  obtain ⟨fuel, hf⟩ := h
  obtain ⟨cs, rfl⟩ : ∃ cs, v = .agg cs := by
    simp only [Value.okWide, Try.underlying23] at hv
    obtain ⟨cs, h1, _⟩ := hv
    exact ⟨cs, h1⟩
  obtain ⟨xs, m, _, _, hl, hxl, hg⟩ := DataW.trod_array (n := 2) (e := 3) Try.underlying23 hf
  have hc : Try.prog.cellsOf 3 = 1 := by kernel_rfl
  have hC : Try.prog.cellsOf 23 = 2 := by kernel_rfl
  rw [hC] at hl
  have hl2 : cs.toList.length = 2 := by simpa [Value.cells] using hl
  obtain ⟨l⟩ := cs
  match l, hl2 with
  | [c0, c1], _ =>
    match xs, hxl with
    | [y0, y1], _ =>
      have g0 := hg 0 (by omega); have g1 := hg 1 (by omega)
      simp [hc, Value.cells] at g0 g1
      obtain ⟨a0, e0, _, w0⟩ := DataW.trod_int Try.underlying3 g0
      obtain ⟨a1, e1, _, w1⟩ := DataW.trod_int Try.underlying3 g1
      cases e0; cases e1
      exact ⟨a0, a1, rfl, w0, w1⟩
end
end Go.Proofs.Ytdankjhjmaehiaa.Op
