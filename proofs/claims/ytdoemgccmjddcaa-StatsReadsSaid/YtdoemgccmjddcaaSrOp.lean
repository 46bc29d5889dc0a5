/- A slice of entries, a slice of whole numbers, handed in: opened. -/
import Derived.Test.YtdoemgccmjddcaaSr10
import Derived.ProofKit
import Derived.OpenShut
import Derived.Deep.Slices
import Derived.Deep.Fields
import Derived.Laws.Cover2
namespace Go.Proofs.Ytdoemgccmjddcaa.SrOp
open Go.RowKit Go.ChangeShapes Go.WideShapes Go.Deep Fl Wd Li Sr
section
variable {H : Type} {enc : TypeId × Value → H} {w : World} {base : Nat} {spare : Nat → Bool} {held : Bool}

theorem slice_wide {P : Program} {r : Reach} {b0 : Nat} {t e : TypeId} {v : Value} (ht : P.underlying t = some (.slice e)) (hv : Value.okWide P w r b0 t v) :
    v = .slice none 0 0 ∨ ∃ b off len cap, v = .slice (some ⟨b, off, none⟩) len cap ∧ b < w.heap.size ∧ len ≤ cap := by
  obtain ⟨a, len, cap, rfl⟩ := okWide_slice ht hv
  simp only [Value.okWide, ht, Cell.okWide] at hv
  cases a with
  | none =>
    cases len with
    | zero =>
      cases cap with
      | zero => exact .inl rfl
      | succ n => simp [Cell.ok, ht] at hv
    | succ n => simp [Cell.ok, ht] at hv
  | some a =>
    simp only [Cell.ok, ht] at hv
    obtain ⟨h3, _, _, hs, row, n, h4, _⟩ := hv
    obtain ⟨b, off, sp⟩ := a
    simp only at hs h4
    subst hs
    refine .inr ⟨b, off, len, cap, rfl, ?_, h3⟩
    unfold World.shape? at h4
    rcases Nat.lt_or_ge b w.heap.size with h5 | h5
    · exact h5
    · rw [Array.getElem?_eq_none h5] at h4; cases h4

/-- A slice of structs handed in, whatever the struct: what reads its cells is handed over ('one'). -/
theorem open_lies {P : Program} {α : Type} [Inhabited α] {z : Nat} {cells : α → List Value} {good : α → Prop} {t e : TypeId} (ht : P.underlying t = some (.slice e)) (hC : P.cellsOf e = z)
    (one : ∀ (fuel : Nat) (cs : List Value) (x : DataW H × List MemPlace), DataW.trod enc P w base spare held fuel e cs = some x → ∃ c : α, cs = cells c ∧ good c) (hz : ∀ c, (cells c).length = z)
    {r : Reach} {b0 : Nat} {v : Value} {d : DataW H} {p : List MemPlace} (hv : Value.okWide P w r b0 t v) (h : DataW.Trod enc P w base spare held t v d p) :
    ∃ zs : List α, (∀ (j : Nat) (x : α), zs[j]? = some x → good x) ∧ Lies z cells w.heap.size w v zs ∧ ∃ A len cap, v = .slice A len cap := by
  rcases slice_wide ht hv with rfl | ⟨b, off, len, cap, rfl, hb, hlc⟩
  · exact ⟨[], (fun j x hx => by simp at hx), .inl ⟨rfl, rfl⟩, _, _, _, rfl⟩
  · obtain ⟨fuel, hf⟩ := h
    rcases open_slice ht hf with ⟨e, _⟩ | ⟨a, len', cap', m, n, D, Pl, e, hba, hlc', _, hm, _, hel⟩
    · cases e
    · cases e
      have hml : len ≤ m := by rw [hm]; split <;> omega
      rw [hC] at hel
      obtain ⟨f, hfc⟩ := choose_lt (α := α) (n := len) (p := fun i c => w.cells? base ((⟨b, off, none⟩ : Addr).add (i * z)) z = some (cells c) ∧ good c) (fun i hi => by
        obtain ⟨cs, h1, h2⟩ := hel i (by omega)
        obtain ⟨c, rfl, hs⟩ := one _ _ _ h2
        exact ⟨c, h1, hs⟩)
      refine ⟨(List.range len).map f, fun j x hx => ?_, .inr ⟨b, off, cap, by simp, hb, fun j x hx i v hv => ?_⟩, _, _, _, rfl⟩
      · have hj : j < len := by simpa using (List.getElem?_eq_some_iff.1 hx).1
        have hxf : x = f j := by simpa [hj, eq_comm] using hx
        rw [hxf]; exact (hfc j hj).2
      · have hj : j < len := by simpa using (List.getElem?_eq_some_iff.1 hx).1
        have hxf : x = f j := by simpa [hj, eq_comm] using hx
        subst hxf
        obtain ⟨h1, _⟩ := hfc j hj
        have hi : i < z := by have := (List.getElem?_eq_some_iff.1 hv).1; rw [hz] at this; exact this
        have h2 := (World.cells?_some h1).2.2 i hi
        rw [Wd.add_add, Addr.add_lit, hv] at h2
        rw [Nat.add_assoc]; exact h2

set_option maxRecDepth 20000 in
set_option maxHeartbeats 1000000 in
theorem en_of_trod {fuel : Nat} {cs : List Value} {x : DataW H × List MemPlace} (h : DataW.trod enc Try.prog w base spare held fuel 132 cs = some x) :
    ∃ c : En, cs = c.cells ∧ (Lit.int .i64 c.seq).wf = true := by
  obtain ⟨xs, n, _, _, hl, hxl, hf⟩ := DataW.trod_struct Try.underlying132 h
  have hC : Try.prog.cellsOf 132 = 11 := by kernel_rfl
  have hc34 : Try.prog.cellsOf 34 = 3 := by kernel_rfl
  have hc130 : Try.prog.cellsOf 130 = 8 := by kernel_rfl
  have hc3 : Try.prog.cellsOf 3 = 1 := by kernel_rfl
  have hc9 : Try.prog.cellsOf 9 = 1 := by kernel_rfl
  rw [hC] at hl
  match cs, hl with
  | [c0, c1, c2, c3, c4, c5, c6, c7, c8, c9, c10], _ =>
    have hxs : xs.length = 2 := hxl
    match xs, hxs with
    | [y0, y1], _ =>
      have g0 := hf 0 _ rfl; have g1 := hf 1 _ rfl
      simp [hc34, hc130] at g0 g1
      obtain ⟨xs0, n0, _, _, _, hx0, hf0⟩ := DataW.trod_struct Try.underlying34 g0
      obtain ⟨xs1, n1, _, _, _, hx1, hf1⟩ := DataW.trod_struct Try.underlying130 g1
      have hx0' : xs0.length = 3 := hx0
      have hx1' : xs1.length = 8 := hx1
      match xs0, hx0' with
      | [a0, a1, a2], _ =>
        match xs1, hx1' with
        | [b0, b1, b2, b3, b4, b5, b6, b7], _ =>
          have k0 := hf0 0 _ rfl; have k1 := hf0 1 _ rfl; have k2 := hf0 2 _ rfl
          have m0 := hf1 0 _ rfl; have m1 := hf1 1 _ rfl; have m2 := hf1 2 _ rfl; have m3 := hf1 3 _ rfl
          have m4 := hf1 4 _ rfl; have m5 := hf1 5 _ rfl; have m6 := hf1 6 _ rfl; have m7 := hf1 7 _ rfl
          simp [hc3, hc9] at k0 k1 k2 m0 m1 m2 m3 m4 m5 m6 m7
          obtain ⟨z0, e0, _⟩ := DataW.trod_int Try.underlying3 k0
          obtain ⟨z1, e1, _⟩ := DataW.trod_string Try.underlying9 k1
          obtain ⟨z2, e2, _⟩ := DataW.trod_int Try.underlying3 k2
          obtain ⟨z3, e3, _⟩ := DataW.trod_int Try.underlying3 m0
          obtain ⟨z4, e4, _, wf4⟩ := DataW.trod_int Try.underlying3 m1
          obtain ⟨z5, e5, _⟩ := DataW.trod_int Try.underlying3 m2
          obtain ⟨z6, e6, _⟩ := DataW.trod_int Try.underlying3 m3
          obtain ⟨z7, e7, _⟩ := DataW.trod_int Try.underlying3 m4
          obtain ⟨z8, e8, _⟩ := DataW.trod_int Try.underlying3 m5
          obtain ⟨z9, e9, _⟩ := DataW.trod_int Try.underlying3 m6
          obtain ⟨z10, e10, _⟩ := DataW.trod_string Try.underlying9 m7
          cases e0; cases e1; cases e2; cases e3; cases e4; cases e5; cases e6; cases e7; cases e8; cases e9; cases e10
          exact ⟨⟨z0, z1, z2, z3, z4, z5, z6, z7, z8, z9, z10⟩, rfl, wf4⟩

set_option maxRecDepth 20000 in
theorem open_ens {r : Reach} {b0 : Nat} {v : Value} {d : DataW H} {p : List MemPlace} (hv : Value.okWide Try.prog w r b0 51 v) (h : DataW.Trod enc Try.prog w base spare held 51 v d p) :
    ∃ zs : List En, (∀ (j : Nat) (x : En), zs[j]? = some x → (Lit.int .i64 x.seq).wf = true) ∧ Ls w.heap.size w v zs ∧ ∃ A len cap, v = .slice A len cap := by
  haveI : Inhabited En := ⟨⟨0, ByteArray.empty, 0, 0, 0, 0, 0, 0, 0, 0, ByteArray.empty⟩⟩
  exact open_lies (α := En) Try.underlying51 (by kernel_rfl) (fun _ _ _ h => en_of_trod h) en_len hv h

theorem int_of_trod {fuel : Nat} {cs : List Value} {x : DataW H × List MemPlace} (h : DataW.trod enc Try.prog w base spare held fuel 3 cs = some x) :
    ∃ c : Int, cs = [Value.int .i64 c] ∧ (Lit.int .i64 c).wf = true := by
  obtain ⟨z, e, _, wf⟩ := DataW.trod_int Try.underlying3 h
  exact ⟨z, e, wf⟩
theorem flat_ints (zs : List Int) : zs.flatMap (fun c => [Value.int .i64 c]) = St.I zs := by
  induction zs with
  | nil => rfl
  | cons x l ih => rw [List.flatMap_cons, ih]; rfl
set_option maxRecDepth 20000 in
theorem open_intl {r : Reach} {b0 : Nat} {v : Value} {d : DataW H} {p : List MemPlace} (hv : Value.okWide Try.prog w r b0 27 v) (h : DataW.Trod enc Try.prog w base spare held 27 v d p) :
    ∃ zs : List Int, (∀ (j : Nat) (x : Int), zs[j]? = some x → (Lit.int .i64 x).wf = true) ∧ ∃ A cap, v = .slice A zs.length cap ∧ Sl w w.heap.size 1 A zs.length (St.I zs) := by
  obtain ⟨zs, hg, hl, A, len, cap, rfl⟩ := open_lies (α := Int) (z := 1) (cells := fun c => [Value.int .i64 c]) Try.underlying27 (by kernel_rfl) (fun _ _ _ h => int_of_trod h) (fun _ => rfl) hv h
  obtain ⟨rfl, hc⟩ := hl.parts
  refine ⟨zs, hg, A, cap, rfl, ?_⟩
  refine ⟨by simp [St.I], fun hn => ?_⟩
  obtain ⟨b, off, rfl, hb, hcs⟩ := hc hn
  refine ⟨_, rfl, hb, fun j u hu => ?_⟩
  unfold St.I at hu
  simp only [List.getElem?_map] at hu
  obtain ⟨x, hx, rfl⟩ := Option.map_eq_some_iff.1 hu
  rw [Addr.add_lit]
  have := hcs j x hx 0 _ rfl
  simpa using this
end
end Go.Proofs.Ytdoemgccmjddcaa.SrOp
