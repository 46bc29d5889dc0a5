/- Arguments opened: a float, a class, a pair of whole numbers; slices of them. A slice of classes, handed in: opened. Slices of structs, and of whole numbers, handed in: opened (generic). Configurations handed in: opened. Packets of the law GaugePlays handed in: opened. -/
import Derived.Test.YtpchhfhmopmagaaGreatClM
import Derived.ProofKit
import Derived.OpenShut
import Derived.Deep.Slices
import Derived.Deep.Fields
import Derived.Laws.Cover2
import Derived.Test.YtpchhfhmopmagaaGreatSsM
import Derived.Test.YtpchhfhmopmagaaGreatLi
import Derived.Test.YtpchhfhmopmagaaGreatStM
import Derived.Test.YtpchhfhmopmagaaGreatFi2
import Derived.Test.YtpchhfhmopmagaaGreatGbM
set_option linter.unusedVariables false
set_option linter.unusedSimpArgs false
/- Arguments opened: a float, a class, a pair of whole numbers; slices of them. -/
namespace Go.Proofs.YtpchhfhmopmagaaGreat.Op
open Go.RowKit Go.ChangeShapes Go.WideShapes Go.Deep Fl Wd Cl
section
variable {H : Type} {enc : TypeId × Value → H} {w : World} {base : Nat} {spare : Nat → Bool} {held : Bool}

theorem trod_float {P : Program} {t : TypeId} {k : FloatKind} {fuel : Nat} {cs : List Value} {x : DataW H × List MemPlace} (ht : P.underlying t = some (.float k)) (h : DataW.trod enc P w base spare held fuel t cs = some x) :
    ∃ b, cs = [.float k b] ∧ (Lit.float k b).wf = true := by
  cases fuel with
  | zero => simp [DataW.trod] at h
  | succ n =>
    unfold DataW.trod at h
    rw [ht] at h
    split at h <;> simp_all

set_option maxRecDepth 20000 in
theorem cls_of_trod {fuel : Nat} {cs : List Value} {x : DataW H × List MemPlace} (h : DataW.trod enc Tryz.prog w base spare held fuel 84 cs = some x) :
    ∃ c : Cls, cs = c.cells ∧ c.share < 18446744073709551616 := by
  obtain ⟨xs, n, _, _, hl, hxl, hf⟩ := DataW.trod_struct Tryz.underlying84 h
  have hC : Tryz.prog.cellsOf 84 = 11 := by kernel_rfl
  have hc3 : Tryz.prog.cellsOf 3 = 1 := by kernel_rfl
  have hc4 : Tryz.prog.cellsOf 4 = 1 := by kernel_rfl
  have hc45 : Tryz.prog.cellsOf 82 = 1 := by kernel_rfl
  rw [hC] at hl
  match cs, hl with
  | [c0, c1, c2, c3, c4, c5, c6, c7, c8, c9, c10], _ =>
    have hxs : xs.length = 11 := hxl
    match xs, hxs with
    | [y0, y1, y2, y3, y4, y5, y6, y7, y8, y9, y10], _ =>
      have g0 := hf 0 _ rfl; have g1 := hf 1 _ rfl; have g2 := hf 2 _ rfl; have g3 := hf 3 _ rfl; have g4 := hf 4 _ rfl; have g5 := hf 5 _ rfl
      have g6 := hf 6 _ rfl; have g7 := hf 7 _ rfl; have g8 := hf 8 _ rfl; have g9 := hf 9 _ rfl; have g10 := hf 10 _ rfl
      simp [hc3, hc4, hc45] at g0 g1 g2 g3 g4 g5 g6 g7 g8 g9 g10
      obtain ⟨a0, e0, _⟩ := DataW.trod_int Tryz.underlying3 g0
      obtain ⟨a1, e1, _⟩ := DataW.trod_int Tryz.underlying3 g1
      obtain ⟨a2, e2, wf2⟩ := trod_float Tryz.underlying82 g2
      obtain ⟨a3, e3, _⟩ := DataW.trod_int Tryz.underlying3 g3
      obtain ⟨a4, e4, _⟩ := DataW.trod_int Tryz.underlying3 g4
      obtain ⟨a5, e5, _⟩ := DataW.trod_int Tryz.underlying3 g5
      obtain ⟨a6, e6, _⟩ := DataW.trod_int Tryz.underlying3 g6
      obtain ⟨a7, e7, _⟩ := DataW.trod_int Tryz.underlying3 g7
      obtain ⟨a8, e8, _⟩ := DataW.trod_int Tryz.underlying3 g8
      obtain ⟨a9, e9, _⟩ := DataW.trod_bool Tryz.underlying4 g9
      obtain ⟨a10, e10, _⟩ := DataW.trod_bool Tryz.underlying4 g10
      cases e0; cases e1; cases e2; cases e3; cases e4; cases e5; cases e6; cases e7; cases e8; cases e9; cases e10
      refine ⟨⟨a0, a1, a2, a3, a4, a5, a6, a7, a8, a9, a10⟩, rfl, ?_⟩
      simpa [Lit.wf] using wf2

end
end Go.Proofs.YtpchhfhmopmagaaGreat.Op

/- A slice of classes, handed in: opened. -/
namespace Go.Proofs.YtpchhfhmopmagaaGreat.Op
open Go.RowKit Go.ChangeShapes Go.WideShapes Go.Deep Fl Wd Cl Go.Proofs.YtpchhfhmopmagaaGreat.So
section
variable {H : Type} {enc : TypeId × Value → H} {w : World} {base : Nat} {spare : Nat → Bool} {held : Bool}

theorem slice_wide {P : Program} {r : Reach} {b0 : Nat} {t e : TypeId} {v : Value} (ht : P.underlying t = some (.slice e)) (hv : Value.okWide P w r b0 t v) :
    v = .slice none 0 0 ∨ ∃ b off len cap, v = .slice (some ⟨b, off, none⟩) len cap ∧ b < w.heap.size ∧ len ≤ cap := by
  obtain ⟨a, len, cap, rfl⟩ := okWide_slice ht hv
  simp only [Value.okWide, ht, Cell.okWide] at hv
  cases a with
  | none =>
    cases len with
    | zero =>
      cases cap with
      | zero => exact .inl rfl
      | succ n => simp [Cell.ok, ht] at hv
    | succ n => simp [Cell.ok, ht] at hv
  | some a =>
    simp only [Cell.ok, ht] at hv
    obtain ⟨h3, _, _, hs, row, n, h4, _⟩ := hv
    obtain ⟨b, off, sp⟩ := a
    simp only at hs h4
    subst hs
    refine .inr ⟨b, off, len, cap, rfl, ?_, h3⟩
    unfold World.shape? at h4
    rcases Nat.lt_or_ge b w.heap.size with h5 | h5
    · exact h5
    · rw [Array.getElem?_eq_none h5] at h4; cases h4

set_option maxRecDepth 20000 in
theorem open_clss {r : Reach} {b0 : Nat} {v : Value} {d : DataW H} {p : List MemPlace} (hv : Value.okWide Tryz.prog w r b0 22 v) (h : DataW.Trod enc Tryz.prog w base spare held 22 v d p) :
    ∃ zs : List Cls, (∀ z ∈ zs, z.share < 18446744073709551616) ∧ Holds w.heap.size w v zs ∧ ∃ A len cap, v = .slice A len cap := by
  rcases slice_wide Tryz.underlying22 hv with rfl | ⟨b, off, len, cap, rfl, hb, hlc⟩
  · exact ⟨[], (fun z hz => by simp at hz), .inl ⟨rfl, rfl⟩, _, _, _, rfl⟩
  · obtain ⟨fuel, hf⟩ := h
    rcases open_slice Tryz.underlying22 hf with ⟨e, _⟩ | ⟨a, len', cap', m, n, D, Pl, e, hba, hlc', _, hm, _, hel⟩
    · cases e
    · cases e
      have hml : len ≤ m := by rw [hm]; split <;> omega
      have hC : Tryz.prog.cellsOf 84 = 11 := by kernel_rfl
      rw [hC] at hel
      haveI : Inhabited Cls := ⟨⟨0, 0, 0, 0, 0, 0, 0, 0, 0, false, false⟩⟩
      obtain ⟨f, hfc⟩ := choose_lt (α := Cls) (n := len) (p := fun i c => w.cells? base ((⟨b, off, none⟩ : Addr).add (i * 11)) 11 = some c.cells ∧ c.share < 18446744073709551616) (fun i hi => by
        obtain ⟨cs, h1, h2⟩ := hel i (by omega)
        obtain ⟨c, rfl, hs⟩ := cls_of_trod h2
        exact ⟨c, h1, hs⟩)
      refine ⟨(List.range len).map f, fun z hz => ?_, .inr ⟨b, off, cap, by simp, hb, fun j x hx i v hv => ?_⟩, _, _, _, rfl⟩
      · obtain ⟨i, hi, rfl⟩ := List.mem_map.1 hz
        exact (hfc i (List.mem_range.1 hi)).2
      · have hj : j < len := by simpa using (List.getElem?_eq_some_iff.1 hx).1
        have hxf : x = f j := by simpa [hj, eq_comm] using hx
        subst hxf
        obtain ⟨h1, _⟩ := hfc j hj
        have hi : i < 11 := (List.getElem?_eq_some_iff.1 hv).1
        have h2 := (World.cells?_some h1).2.2 i hi
        rw [Wd.add_add, Addr.add_lit, hv] at h2
        rw [Nat.add_assoc]; exact h2
end
end Go.Proofs.YtpchhfhmopmagaaGreat.Op

/- Slices of structs, and of whole numbers, handed in: opened (generic). -/
namespace Go.Proofs.YtpchhfhmopmagaaGreat.Opn
open Go.RowKit Go.ChangeShapes Go.WideShapes Go.Deep Wd Li
section
variable {H : Type} {enc : TypeId × Value → H} {w : World} {base : Nat} {spare : Nat → Bool} {held : Bool}

theorem slice_wide {P : Program} {r : Reach} {b0 : Nat} {t e : TypeId} {v : Value} (ht : P.underlying t = some (.slice e)) (hv : Value.okWide P w r b0 t v) :
    v = .slice none 0 0 ∨ ∃ b off len cap, v = .slice (some ⟨b, off, none⟩) len cap ∧ b < w.heap.size ∧ len ≤ cap := by
  obtain ⟨a, len, cap, rfl⟩ := okWide_slice ht hv
  simp only [Value.okWide, ht, Cell.okWide] at hv
  cases a with
  | none =>
    cases len with
    | zero =>
      cases cap with
      | zero => exact .inl rfl
      | succ n => simp [Cell.ok, ht] at hv
    | succ n => simp [Cell.ok, ht] at hv
  | some a =>
    simp only [Cell.ok, ht] at hv
    obtain ⟨h3, _, _, hs, row, n, h4, _⟩ := hv
    obtain ⟨b, off, sp⟩ := a
    simp only at hs h4
    subst hs
    refine .inr ⟨b, off, len, cap, rfl, ?_, h3⟩
    unfold World.shape? at h4
    rcases Nat.lt_or_ge b w.heap.size with h5 | h5
    · exact h5
    · rw [Array.getElem?_eq_none h5] at h4; cases h4

/-- A slice of structs handed in, whatever the struct: what reads its cells is handed over ('one'). -/
theorem open_lies {P : Program} {α : Type} [Inhabited α] {z : Nat} {cells : α → List Value} {good : α → Prop} {t e : TypeId} (ht : P.underlying t = some (.slice e)) (hC : P.cellsOf e = z)
    (one : ∀ (fuel : Nat) (cs : List Value) (x : DataW H × List MemPlace), DataW.trod enc P w base spare held fuel e cs = some x → ∃ c : α, cs = cells c ∧ good c) (hz : ∀ c, (cells c).length = z)
    {r : Reach} {b0 : Nat} {v : Value} {d : DataW H} {p : List MemPlace} (hv : Value.okWide P w r b0 t v) (h : DataW.Trod enc P w base spare held t v d p) :
    ∃ zs : List α, (∀ (j : Nat) (x : α), zs[j]? = some x → good x) ∧ Lies z cells w.heap.size w v zs ∧ ∃ A len cap, v = .slice A len cap := by
  rcases slice_wide ht hv with rfl | ⟨b, off, len, cap, rfl, hb, hlc⟩
  · exact ⟨[], (fun j x hx => by simp at hx), .inl ⟨rfl, rfl⟩, _, _, _, rfl⟩
  · obtain ⟨fuel, hf⟩ := h
    rcases open_slice ht hf with ⟨e, _⟩ | ⟨a, len', cap', m, n, D, Pl, e, hba, hlc', _, hm, _, hel⟩
    · cases e
    · cases e
      have hml : len ≤ m := by rw [hm]; split <;> omega
      rw [hC] at hel
      obtain ⟨f, hfc⟩ := choose_lt (α := α) (n := len) (p := fun i c => w.cells? base ((⟨b, off, none⟩ : Addr).add (i * z)) z = some (cells c) ∧ good c) (fun i hi => by
        obtain ⟨cs, h1, h2⟩ := hel i (by omega)
        obtain ⟨c, rfl, hs⟩ := one _ _ _ h2
        exact ⟨c, h1, hs⟩)
      refine ⟨(List.range len).map f, fun j x hx => ?_, .inr ⟨b, off, cap, by simp, hb, fun j x hx i v hv => ?_⟩, _, _, _, rfl⟩
      · have hj : j < len := by simpa using (List.getElem?_eq_some_iff.1 hx).1
        have hxf : x = f j := by simpa [hj, eq_comm] using hx
        rw [hxf]; exact (hfc j hj).2
      · have hj : j < len := by simpa using (List.getElem?_eq_some_iff.1 hx).1
        have hxf : x = f j := by simpa [hj, eq_comm] using hx
        subst hxf
        obtain ⟨h1, _⟩ := hfc j hj
        have hi : i < z := by have := (List.getElem?_eq_some_iff.1 hv).1; rw [hz] at this; exact this
        have h2 := (World.cells?_some h1).2.2 i hi
        rw [Wd.add_add, Addr.add_lit, hv] at h2
        rw [Nat.add_assoc]; exact h2


end
end Go.Proofs.YtpchhfhmopmagaaGreat.Opn

/- Configurations handed in: opened. -/
namespace Go.Proofs.YtpchhfhmopmagaaGreat.OpC
open Go.RowKit Go.ChangeShapes Go.WideShapes Go.Deep Wd Li Go.Proofs.YtpchhfhmopmagaaGreat.Cl Go.Proofs.YtpchhfhmopmagaaGreat.So Go.Proofs.YtpchhfhmopmagaaGreat.Fi
section
variable {H : Type} {enc : TypeId × Value → H} {w : World} {base : Nat} {spare : Nat → Bool} {held : Bool}

theorem two_of {t e : TypeId} {k : IntKind} {f0 f1 : Field} {fuel : Nat} {c0 c1 : Value} {x : DataW H × List MemPlace} (ht : Tryz.prog.underlying t = some (.struct #[f0, f1])) (e0 : f0.type = e) (e1 : f1.type = e) (o0 : f0.offset = 0) (o1 : f1.offset = 1) (he : Tryz.prog.underlying e = some (.int k)) (hc : Tryz.prog.cellsOf e = 1) (hC : Tryz.prog.cellsOf t = 2)
    (h : DataW.trod enc Tryz.prog w base spare held fuel t [c0, c1] = some x) : ∃ a b : Int, c0 = .int k a ∧ c1 = .int k b ∧ (Lit.int k a).wf = true ∧ (Lit.int k b).wf = true := by
  obtain ⟨xs, n, _, _, hl, hxl, hf⟩ := DataW.trod_struct ht h
  have hxs : xs.length = 2 := hxl
  match xs, hxs with
  | [y0, y1], _ =>
    have g0 := hf 0 _ rfl; have g1 := hf 1 _ rfl
    simp [e0, e1, o0, o1, hc] at g0 g1
    obtain ⟨a0, q0, _, w0⟩ := DataW.trod_int he g0
    obtain ⟨a1, q1, _, w1⟩ := DataW.trod_int he g1
    cases q0; cases q1
    exact ⟨a0, a1, rfl, rfl, w0, w1⟩
set_option maxRecDepth 20000 in
theorem flt_of_trod {fuel : Nat} {cs : List Value} {x : DataW H × List MemPlace} (h : DataW.trod enc Tryz.prog w base spare held fuel 98 cs = some x) :
    ∃ c : F, cs = c.cells ∧ True := by
  obtain ⟨xs, n, _, _, hl, hxl, hf⟩ := DataW.trod_struct Tryz.underlying98 h
  have hC : Tryz.prog.cellsOf 98 = 15 := by kernel_rfl
  have hc3 : Tryz.prog.cellsOf 3 = 1 := by kernel_rfl
  have hcu : Tryz.prog.cellsOf 92 = 1 := by kernel_rfl
  have hcA : Tryz.prog.cellsOf 94 = 2 := by kernel_rfl
  have hcS : Tryz.prog.cellsOf 96 = 2 := by kernel_rfl
  rw [hC] at hl
  match cs, hl with
  | [c0, c1, c2, c3, c4, c5, c6, c7, c8, c9, c10, c11, c12, c13, c14], _ =>
    have hxs : xs.length = 11 := hxl
    match xs, hxs with
    | [y0, y1, y2, y3, y4, y5, y6, y7, y8, y9, y10], _ =>
      have g0 := hf 0 _ rfl; have g1 := hf 1 _ rfl; have g2 := hf 2 _ rfl; have g3 := hf 3 _ rfl; have g4 := hf 4 _ rfl; have g5 := hf 5 _ rfl
      have g6 := hf 6 _ rfl; have g7 := hf 7 _ rfl; have g8 := hf 8 _ rfl; have g9 := hf 9 _ rfl; have g10 := hf 10 _ rfl
      simp [hc3, hcA, hcS] at g0 g1 g2 g3 g4 g5 g6 g7 g8 g9 g10
      obtain ⟨a0, e0, _, w0⟩ := DataW.trod_int Tryz.underlying3 g0
      obtain ⟨a1, e1, _, w1⟩ := DataW.trod_int Tryz.underlying3 g1
      obtain ⟨a2, e2, _, w2⟩ := DataW.trod_int Tryz.underlying3 g2
      obtain ⟨a3, a4, e3, e4, w3, w4⟩ := two_of Tryz.underlying94 rfl rfl rfl rfl Tryz.underlying92 hcu hcA g3
      obtain ⟨a5, a6, e5, e6, w5, w6⟩ := two_of Tryz.underlying94 rfl rfl rfl rfl Tryz.underlying92 hcu hcA g4
      obtain ⟨a7, e7, _, w7⟩ := DataW.trod_int Tryz.underlying3 g5
      obtain ⟨a8, e8, _, w8⟩ := DataW.trod_int Tryz.underlying3 g6
      obtain ⟨a9, e9, _, w9⟩ := DataW.trod_int Tryz.underlying3 g7
      obtain ⟨b0, b1, d0, d1, v0, v1⟩ := two_of Tryz.underlying96 rfl rfl rfl rfl Tryz.underlying3 hc3 hcS g8
      obtain ⟨b2, b3, d2, d3, v2, v3⟩ := two_of Tryz.underlying96 rfl rfl rfl rfl Tryz.underlying3 hc3 hcS g9
      obtain ⟨b4, d4, _, v4⟩ := DataW.trod_int Tryz.underlying3 g10
      cases e0; cases e1; cases e2; subst e3 e4 e5 e6; cases e7; cases e8; cases e9; subst d0 d1 d2 d3; cases d4
      simp [Lit.wf, IntKind.min, IntKind.max, IntKind.signed, IntKind.bits] at w0 w1 w2 w3 w4 w5 w6 w7 w8 w9 v0 v1 v2 v3 v4
      refine ⟨⟨a0, a1, a2, a3.toNat, a4.toNat, a5.toNat, a6.toNat, a7, a8, a9, b0, b1, b2, b3, b4, by unfold InI InU; omega⟩, ?_, trivial⟩
      unfold F.cells
      simp only
      rw [Int.toNat_of_nonneg w3.1, Int.toNat_of_nonneg w4.1, Int.toNat_of_nonneg w5.1, Int.toNat_of_nonneg w6.1]
set_option maxRecDepth 20000 in
theorem open_conf {r : Reach} {b0 : Nat} {v : Value} {d : DataW H} {p : List MemPlace} (hv : Value.okWide Tryz.prog w r b0 25 v) (h : DataW.Trod enc Tryz.prog w base spare held 25 v d p) :
    ∃ (t r d : Int) (A : Option Addr) (na ca : Nat) (B : Option Addr) (mb cb : Nat) (l : List Cls) (fs : List F), v = .agg #[.int .i64 t, .int .i64 r, .int .i64 d, .slice A na ca, .slice B mb cb] ∧ (Lit.int .i64 d).wf = true ∧ (∀ x ∈ l, x.share < 18446744073709551616) ∧ na ≤ ca ∧
      Holds w.heap.size w (.slice A na ca) l ∧ HoldsF w.heap.size w (.slice B mb cb) fs := by
  simp only [Value.okWide, Tryz.underlying25] at hv
  obtain ⟨cs, rfl, hsz, ts, hts, _, hcell⟩ := hv
  have hts2 : Tryz.prog.cellTypes Tryz.prog.depth 25 = some [3, 3, 3, 22, 23] := by kernel_rfl
  rw [hts2] at hts
  injection hts with hts
  subst hts
  obtain ⟨fuel, hf0⟩ := h
  obtain ⟨xs, n, _, _, hl, hxl, hf⟩ := DataW.trod_struct Tryz.underlying25 hf0
  have hC : Tryz.prog.cellsOf 25 = 5 := by kernel_rfl
  have hc3 : Tryz.prog.cellsOf 3 = 1 := by kernel_rfl
  have hc22 : Tryz.prog.cellsOf 22 = 1 := by kernel_rfl
  have hc23 : Tryz.prog.cellsOf 23 = 1 := by kernel_rfl
  rw [hC] at hl
  obtain ⟨lc⟩ := cs
  have hl2 : lc.length = 5 := by simpa [Value.cells] using hl
  match lc, hl2 with
  | [c0, c1, c2, c3, c4], _ =>
    have hxs : xs.length = 5 := hxl
    match xs, hxs with
    | [y0, y1, y2, y3, y4], _ =>
      have g0 := hf 0 _ rfl; have g1 := hf 1 _ rfl; have g2 := hf 2 _ rfl; have g3 := hf 3 _ rfl; have g4 := hf 4 _ rfl
      simp [hc3, hc22, hc23, Value.cells] at g0 g1 g2 g3 g4
      obtain ⟨a0, e0, _, w0⟩ := DataW.trod_int Tryz.underlying3 g0
      obtain ⟨a1, e1, _, w1⟩ := DataW.trod_int Tryz.underlying3 g1
      obtain ⟨a2, e2, _, w2⟩ := DataW.trod_int Tryz.underlying3 g2
      cases e0; cases e1; cases e2
      obtain ⟨u3, hu3, k3⟩ := hcell 3 c3 rfl
      obtain ⟨u4, hu4, k4⟩ := hcell 4 c4 rfl
      have hu3' : u3 = 22 := by simpa using hu3.symm
      have hu4' : u4 = 23 := by simpa using hu4.symm
      subst hu3' hu4'
      have v3 : Value.okWide Tryz.prog w r b0 22 c3 := by simpa only [Value.okWide, Tryz.underlying22] using k3
      have v4 : Value.okWide Tryz.prog w r b0 23 c4 := by simpa only [Value.okWide, Tryz.underlying23] using k4
      obtain ⟨A0, na0, ca0, rfl⟩ := okWide_slice Tryz.underlying22 v3
      obtain ⟨B0, mb0, cb0, rfl⟩ := okWide_slice Tryz.underlying23 v4
      obtain ⟨l, hls, hI, _⟩ := Op.open_clss v3 (d := y3.1) (p := y3.2) ⟨n, by simpa [Value.cells] using g3⟩
      obtain ⟨fs, _, hF, _⟩ := Opn.open_lies (α := F) (z := 15) (cells := F.cells) (good := fun _ => True) Tryz.underlying23 (by kernel_rfl) (fun _ _ _ h => flt_of_trod h) (fun _ => rfl) v4 (d := y4.1) (p := y4.2) ⟨n, by simpa [Value.cells] using g4⟩
      have hcap : na0 ≤ ca0 := by
        rcases Opn.slice_wide Tryz.underlying22 v3 with e | ⟨_, _, _, _, e, _, hh⟩
        · cases e; exact Nat.le_refl _
        · cases e; exact hh
      exact ⟨a0, a1, a2, A0, na0, ca0, B0, mb0, cb0, l, fs, rfl, w2, hls, hcap, hI, hF⟩
end
end Go.Proofs.YtpchhfhmopmagaaGreat.OpC

/- Packets of the law GaugePlays handed in: opened. -/
namespace Go.Proofs.YtpchhfhmopmagaaGreat.OpP
open Go.RowKit Go.ChangeShapes Go.WideShapes Go.Deep Wd Li Rg
section
variable {H : Type} {enc : TypeId × Value → H} {w : World} {base : Nat} {spare : Nat → Bool} {held : Bool}
set_option maxRecDepth 20000 in
set_option maxHeartbeats 1000000 in
theorem put_of_trod {fuel : Nat} {cs : List Value} {x : DataW H × List MemPlace} (h : DataW.trod enc Tryz.prog w base spare held fuel 55 cs = some x) :
    ∃ c : Pt, cs = c.cells ∧ ((Lit.int .i64 c.leaf).wf = true ∧ (Lit.int .i64 c.size).wf = true) := by
  obtain ⟨xs, n, _, _, hl, hxl, hf⟩ := DataW.trod_struct Tryz.underlying55 h
  have hC : Tryz.prog.cellsOf 55 = 3 := by kernel_rfl
  have hc3 : Tryz.prog.cellsOf 3 = 1 := by kernel_rfl
  rw [hC] at hl
  match cs, hl with
  | [c0, c1, c2], _ =>
    have hxs : xs.length = 3 := hxl
    match xs, hxs with
    | [y0, y1, y2], _ =>
      have g0 := hf 0 _ rfl; have g1 := hf 1 _ rfl; have g2 := hf 2 _ rfl
      simp [hc3] at g0 g1 g2
      obtain ⟨z0, e0, _, wf0⟩ := DataW.trod_int Tryz.underlying3 g0
      obtain ⟨z1, e1, _, wf1⟩ := DataW.trod_int Tryz.underlying3 g1
      obtain ⟨z2, e2, _⟩ := DataW.trod_int Tryz.underlying3 g2
      cases e0; cases e1; cases e2
      exact ⟨⟨z0, z1, z2⟩, rfl, wf0, wf1⟩
set_option maxRecDepth 20000 in
theorem open_puts {r : Reach} {b0 : Nat} {v : Value} {d : DataW H} {p : List MemPlace} (hv : Value.okWide Tryz.prog w r b0 51 v) (h : DataW.Trod enc Tryz.prog w base spare held 51 v d p) :
    ∃ zs : List Pt, (∀ x ∈ zs, (Lit.int .i64 x.leaf).wf = true ∧ (Lit.int .i64 x.size).wf = true) ∧ Lies 3 Pt.cells w.heap.size w v zs ∧ ∃ A len cap, v = .slice A len cap := by
  haveI : Inhabited Pt := ⟨⟨0, 0, 0⟩⟩
  obtain ⟨zs, hg, hL, A, len, cap, rfl⟩ := Opn.open_lies (α := Pt) (z := 3) (cells := Pt.cells) (good := fun c => (Lit.int .i64 c.leaf).wf = true ∧ (Lit.int .i64 c.size).wf = true) Tryz.underlying51 (by kernel_rfl) (fun _ _ _ h => put_of_trod h) (fun _ => rfl) hv h
  exact ⟨zs, fun x hx => by obtain ⟨j, hj⟩ := List.mem_iff_getElem?.1 hx; exact hg j x hj, hL, A, len, cap, rfl⟩
end
end Go.Proofs.YtpchhfhmopmagaaGreat.OpP
