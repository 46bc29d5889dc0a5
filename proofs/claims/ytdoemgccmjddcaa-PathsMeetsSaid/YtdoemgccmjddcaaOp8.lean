/- Arguments opened: two bytes. -/
import Derived.Test.YtdoemgccmjddcaaOp
namespace Go.Proofs.Ytdoemgccmjddcaa.Op
open Go.RowKit Go.ChangeShapes Go.WideShapes Go.Deep Fl Wd Cl
section
variable {H : Type} {enc : TypeId × Value → H} {w : World} {base : Nat} {spare : Nat → Bool} {held : Bool}

set_option maxRecDepth 20000 in
/-- two bytes, an array by value -/
theorem open_bytes {r : Reach} {b0 : Nat} {v : Value} {d : DataW H} {p : List MemPlace} (hv : Value.okWide Try.prog w r b0 109 v) (h : DataW.Trod enc Try.prog w base spare held 109 v d p) :
    ∃ a b : Nat, v = .agg #[.int .u8 (a : Int), .int .u8 (b : Int)] ∧ a < 256 ∧ b < 256 := by
  obtain ⟨fuel, hf⟩ := h
  obtain ⟨cs, rfl⟩ : ∃ cs, v = .agg cs := by
    simp only [Value.okWide, Try.underlying109] at hv
    obtain ⟨cs, h1, _⟩ := hv
    exact ⟨cs, h1⟩
  obtain ⟨xs, m, _, _, hl, hxl, hg⟩ := DataW.trod_array (n := 2) (e := 5) Try.underlying109 hf
  have hc : Try.prog.cellsOf 5 = 1 := by kernel_rfl
  have hC : Try.prog.cellsOf 109 = 2 := by kernel_rfl
  rw [hC] at hl
  have hl2 : cs.toList.length = 2 := by simpa [Value.cells] using hl
  obtain ⟨l⟩ := cs
  match l, hl2 with
  | [c0, c1], _ =>
    match xs, hxl with
    | [y0, y1], _ =>
      have g0 := hg 0 (by omega); have g1 := hg 1 (by omega)
      simp [hc, Value.cells] at g0 g1
      obtain ⟨a0, e0, _, w0⟩ := DataW.trod_int Try.underlying5 g0
      obtain ⟨a1, e1, _, w1⟩ := DataW.trod_int Try.underlying5 g1
      cases e0; cases e1
      simp [Lit.wf, IntKind.min, IntKind.max, IntKind.signed, IntKind.bits] at w0 w1
      refine ⟨a0.toNat, a1.toNat, ?_, by omega, by omega⟩
      rw [Int.toNat_of_nonneg w0.1, Int.toNat_of_nonneg w1.1]
end
end Go.Proofs.Ytdoemgccmjddcaa.Op
