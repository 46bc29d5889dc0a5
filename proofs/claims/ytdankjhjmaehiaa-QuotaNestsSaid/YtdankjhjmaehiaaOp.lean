/- Arguments opened: a float, a class, a pair of whole numbers; slices of them. -/
import Derived.Test.YtdankjhjmaehiaaClM
import Derived.ProofKit
import Derived.OpenShut
import Derived.Deep.Slices
import Derived.Deep.Fields
import Derived.Laws.Cover2
namespace Go.Proofs.Ytdankjhjmaehiaa.Op
open Go.RowKit Go.ChangeShapes Go.WideShapes Go.Deep Fl Wd Cl
section
variable {H : Type} {enc : TypeId × Value → H} {w : World} {base : Nat} {spare : Nat → Bool} {held : Bool}

theorem trod_float {P : Program} {t : TypeId} {k : FloatKind} {fuel : Nat} {cs : List Value} {x : DataW H × List MemPlace} (ht : P.underlying t = some (.float k)) (h : DataW.trod enc P w base spare held fuel t cs = some x) :
    ∃ b, cs = [.float k b] ∧ (Lit.float k b).wf = true := by
  cases fuel with
  | zero => simp [DataW.trod] at h
  | succ n =>
    unfold DataW.trod at h
    rw [ht] at h
    split at h <;> simp_all

set_option maxRecDepth 20000 in
theorem cls_of_trod {fuel : Nat} {cs : List Value} {x : DataW H × List MemPlace} (h : DataW.trod enc Try.prog w base spare held fuel 60 cs = some x) :
    ∃ c : Cls, cs = c.cells ∧ c.share < 18446744073709551616 := by
  obtain ⟨xs, n, _, _, hl, hxl, hf⟩ := DataW.trod_struct Try.underlying60 h
  have hC : Try.prog.cellsOf 60 = 11 := by kernel_rfl
  have hc3 : Try.prog.cellsOf 3 = 1 := by kernel_rfl
  have hc4 : Try.prog.cellsOf 4 = 1 := by kernel_rfl
  have hc45 : Try.prog.cellsOf 35 = 1 := by kernel_rfl
  rw [hC] at hl
  match cs, hl with
  | [c0, c1, c2, c3, c4, c5, c6, c7, c8, c9, c10], _ =>
    have hxs : xs.length = 11 := hxl
    match xs, hxs with
    | [y0, y1, y2, y3, y4, y5, y6, y7, y8, y9, y10], _ =>
      have g0 := hf 0 _ rfl; have g1 := hf 1 _ rfl; have g2 := hf 2 _ rfl; have g3 := hf 3 _ rfl; have g4 := hf 4 _ rfl; have g5 := hf 5 _ rfl
      have g6 := hf 6 _ rfl; have g7 := hf 7 _ rfl; have g8 := hf 8 _ rfl; have g9 := hf 9 _ rfl; have g10 := hf 10 _ rfl
      simp [hc3, hc4, hc45] at g0 g1 g2 g3 g4 g5 g6 g7 g8 g9 g10
      obtain ⟨a0, e0, _⟩ := DataW.trod_int Try.underlying3 g0
      obtain ⟨a1, e1, _⟩ := DataW.trod_int Try.underlying3 g1
      obtain ⟨a2, e2, wf2⟩ := trod_float Try.underlying35 g2
      obtain ⟨a3, e3, _⟩ := DataW.trod_int Try.underlying3 g3
      obtain ⟨a4, e4, _⟩ := DataW.trod_int Try.underlying3 g4
      obtain ⟨a5, e5, _⟩ := DataW.trod_int Try.underlying3 g5
      obtain ⟨a6, e6, _⟩ := DataW.trod_int Try.underlying3 g6
      obtain ⟨a7, e7, _⟩ := DataW.trod_int Try.underlying3 g7
      obtain ⟨a8, e8, _⟩ := DataW.trod_int Try.underlying3 g8
      obtain ⟨a9, e9, _⟩ := DataW.trod_bool Try.underlying4 g9
      obtain ⟨a10, e10, _⟩ := DataW.trod_bool Try.underlying4 g10
      cases e0; cases e1; cases e2; cases e3; cases e4; cases e5; cases e6; cases e7; cases e8; cases e9; cases e10
      refine ⟨⟨a0, a1, a2, a3, a4, a5, a6, a7, a8, a9, a10⟩, rfl, ?_⟩
      simpa [Lit.wf] using wf2

set_option maxRecDepth 20000 in
/-- a class by value -/
theorem open_cls {r : Reach} {b0 : Nat} {v : Value} {d : DataW H} {p : List MemPlace} (hv : Value.okWide Try.prog w r b0 60 v) (h : DataW.Trod enc Try.prog w base spare held 60 v d p) :
    ∃ c : Cls, v = c.agg ∧ c.share < 18446744073709551616 := by
  obtain ⟨cs, rfl, _⟩ := okWide_struct Try.underlying60 hv
  obtain ⟨fuel, hf⟩ := h
  obtain ⟨c, hc, hs⟩ := cls_of_trod hf
  refine ⟨c, ?_, hs⟩
  have : cs.toList = c.cells := by simpa [Value.cells] using hc
  have h2 : cs = c.cells.toArray := by rw [← this]
  rw [h2]; rfl

set_option maxRecDepth 20000 in
/-- two whole numbers of 64 bits, an array by value -/
theorem open_two {r : Reach} {b0 : Nat} {v : Value} {d : DataW H} {p : List MemPlace} (hv : Value.okWide Try.prog w r b0 111 v) (h : DataW.Trod enc Try.prog w base spare held 111 v d p) :
    ∃ a b : Nat, v = .agg #[.int .u64 (a : Int), .int .u64 (b : Int)] ∧ a < 18446744073709551616 ∧ b < 18446744073709551616 := by
  obtain ⟨fuel, hf⟩ := h
  obtain ⟨cs, rfl⟩ : ∃ cs, v = .agg cs := by
    simp only [Value.okWide, Try.underlying111] at hv
    obtain ⟨cs, h1, _⟩ := hv
    exact ⟨cs, h1⟩
  obtain ⟨xs, m, _, _, hl, hxl, hg⟩ := DataW.trod_array (n := 2) (e := 106) Try.underlying111 hf
  have hc : Try.prog.cellsOf 106 = 1 := by kernel_rfl
  have hC : Try.prog.cellsOf 111 = 2 := by kernel_rfl
  rw [hC] at hl
  have hl2 : cs.toList.length = 2 := by simpa [Value.cells] using hl
  obtain ⟨l⟩ := cs
  match l, hl2 with
  | [c0, c1], _ =>
    match xs, hxl with
    | [y0, y1], _ =>
      have g0 := hg 0 (by omega); have g1 := hg 1 (by omega)
      simp [hc, Value.cells] at g0 g1
      obtain ⟨a0, e0, _, w0⟩ := DataW.trod_int Try.underlying106 g0
      obtain ⟨a1, e1, _, w1⟩ := DataW.trod_int Try.underlying106 g1
      cases e0; cases e1
      simp [Lit.wf, IntKind.min, IntKind.max, IntKind.signed, IntKind.bits] at w0 w1
      refine ⟨a0.toNat, a1.toNat, ?_, by omega, by omega⟩
      rw [Int.toNat_of_nonneg w0.1, Int.toNat_of_nonneg w1.1]
end
end Go.Proofs.Ytdankjhjmaehiaa.Op
