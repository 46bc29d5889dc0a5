/- class.Sorted: its contract. -/
import Derived.Test.YtdoemgccmjddcaaSs11
namespace Go.Proofs.Ytdoemgccmjddcaa.So
open Go.RowKit Go.Shelf Cl Wd Go.Sort

theorem holdsK_holds {W : World} {g cap N : Nat} {d : Array Cls} (h : HoldsK Cls.cells 11 W g 0 d) (hg : g < N) : Holds N W (.slice (some ⟨g, 0, none⟩) d.size cap) d.toList := by
  refine .inr ⟨g, 0, cap, by simp, hg, fun j x hx i v hv => ?_⟩
  obtain ⟨hj, hx'⟩ := List.getElem?_eq_some_iff.1 hx
  have hj' : j < d.size := by simpa using hj
  obtain ⟨hi, hv'⟩ := List.getElem?_eq_some_iff.1 hv
  have hi' : i < 11 := hi
  have := (h.cell (i := j) (c := i) hj' hi').1
  have e : d[j]! = x := by rw [getElem!_pos d j hj']; simpa using hx'
  rw [e, getElem!_pos x.cells i hi, hv'] at this
  exact this

/-- slices.SortStableFunc on what a call owns -/
theorem sort_owned {w : World} {base : Nat} {v : Value} {zs : List Cls} (h : w.ownsRow base 64 11 v zs.length (zs.flatMap Cls.cells)) (hb : base ≤ w.heap.size) (hn : zs.length ≤ 1048576) :
    Calls Try.prog 151 #[v, .func (.func 122) #[] #[]] w fun e w' =>
      e = .returned (.tuple #[]) ∧ Holds w'.heap.size w' v (sortC zs) ∧ (∀ p, v = .slice (some p) zs.length (match v with | .slice _ _ c => c | _ => 0) → base ≤ p.block) ∧ Below base w w' := by
  rcases h.2 with ⟨rfl, h0⟩ | ⟨g, cap, cur, rfl, hbg, hg, hnc, _, _, ht⟩
  · have hz : zs = [] := List.eq_nil_of_length_eq_zero h0
    subst hz
    exact (sortStable0 none 0 w).mono fun e w' ⟨he, hw⟩ => ⟨he, .inl ⟨rfl, rfl⟩, fun p hp => by simp at hp, hw ▸ Below.refl _ _⟩
  · have hH := owns_holdsK hg ht
    have hgl : g < w.heap.size := (Array.getElem?_eq_some_iff.1 hg).1
    have := sortStable (cap := cap) hH hgl (by simp; omega)
    rw [show zs.toArray.size = zs.length by simp] at this
    refine this.mono fun e w' ⟨he, d', h1, h2, h3, h4⟩ => ⟨he, ?_, fun p hp => ?_, swk_below h4 base hbg hb⟩
    · have e : d'.toList = sortC zs := sortC_uniq h2 h3
      rw [← e, show zs.length = d'.size from h1.symm]
      exact holdsK_holds (h4.holds hgl hH (by rw [h1]; simp)) (Nat.lt_of_lt_of_le hgl h4.le)
    · have := (Value.slice.inj hp).1
      cases this; exact hbg

theorem sortedStable_c (Bv : Nat) (sv : Value) (zs : List Cls) (hreach : zs.length ≤ 1048576) (w : World) (hBv : Bv < w.heap.size) (hc : w.cell? ⟨Bv, 0, none⟩ = some sv) (hI : Holds w.heap.size w sv zs) :
    Calls Try.prog 120 #[.func (.func 152) #[] #[.pointer (some ⟨Bv, 0, none⟩)], .func (.func 122) #[] #[]] w fun e w' =>
      ∃ v, e = .returned v ∧ Holds w'.heap.size w' v (sortC zs) ∧ Below w.heap.size w w' := by
  have h1 := collect_c Bv sv zs hreach w hBv hc hI
  have h2 := fun (v : Value) (w1 : World) (h : w1.ownsRow w.heap.size 64 11 v zs.length (zs.flatMap Cls.cells)) (hb : w.heap.size ≤ w1.heap.size) => sort_owned h hb hreach
  have H2 := Lib.hid h2
  clear h2
  go_enter Try.func120, Try.ntmps120
  go_wp2_with (first
    | (go_at_call 150; refine h1.mono ?_; rintro e w1 ⟨v, rfl, g1, b1⟩)
    | (go_at_call 151; refine (H2.out _ _ g1 b1.size).mono ?_; rintro e w2 ⟨rfl, g2, _, b2⟩))
  go_ret
  exact ⟨v, rfl, g2, b1.trans b2⟩
/-- class.Sorted -/
theorem sorted_c (A : Option Addr) (len cap : Nat) (zs : List Cls) (hreach : zs.length ≤ 1048576) (w : World) (hI : Holds w.heap.size w (.slice A len cap) zs) :
    Calls Try.prog 48 #[.slice A len cap] w fun e w' => ∃ v, e = .returned v ∧ Holds w'.heap.size w' v (sortC zs) ∧ Below w.heap.size w w' := by
  have hB0 : Below w.heap.size w (w.alloc (.cells #[.slice A len cap] 22)) := (Below.refl _ w).alloc (Nat.le_refl _) _
  have h1 := sortedStable_c w.heap.size (.slice A len cap) zs hreach (w.alloc (.cells #[.slice A len cap] 22)) (by simp) (by simp) (by
    rcases hI.below hB0 with h | ⟨b, off, c, e1, e2, e3⟩
    · exact .inl h
    · exact .inr ⟨b, off, c, e1, by simp; omega, e3⟩)
  go_enter Try.func48, Try.ntmps48
  go_wp2_with (first
    | (go_at_call 121; refine (values_c _ _ _ _).mono ?_; rintro e w' ⟨rfl, rfl⟩)
    | (go_at_call 120; refine h1.mono ?_; rintro e w2 ⟨v, rfl, g2, b2⟩))
  go_ret
  exact ⟨v, rfl, g2, hB0.trans (b2.mono (by simp))⟩
end Go.Proofs.Ytdoemgccmjddcaa.So
