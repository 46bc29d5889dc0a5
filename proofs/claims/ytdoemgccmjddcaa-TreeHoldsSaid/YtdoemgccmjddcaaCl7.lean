/- Classes: with a share's bits; the document's examples. -/
import Derived.Test.YtdoemgccmjddcaaCl6
namespace Go.Proofs.Ytdoemgccmjddcaa.Cl
open Go.RowKit Fl Wd St Rel
attribute [local go_sem] run_store_float

def Cls.with (c : Cls) (b : Nat) : Cls := { c with share := b }
set_option maxRecDepth 20000 in
set_option maxHeartbeats 1000000 in
theorem of_any (c : Cls) (b : Nat) (w : World) : Calls Try.prog 38 #[c.agg, .int .u64 (b : Int)] w (Ret1 ((c.with b).agg) w) := by
  unfold Cls.agg Cls.with
  go_enter Try.func38, Try.ntmps38
  go_wp2
  refine bodyPost_ret (v := .agg #[.int .i64 c.id, .int .i64 c.parent, .float .f64 b, .int .i64 c.prio, .int .i64 c.quantum, .int .i64 c.limit, .int .i64 c.weight, .int .i64 c.minIdle, .int .i64 c.maxIdle, .bool c.bounded, .bool c.isolated]) (by simp [results, Try.results38, go_sem]) rfl ⟨rfl, ?_⟩
  exact ((Below.refl _ w).alloc (Nat.le_refl _) _).alloc (by simp) _

theorem cls_cells {w : World} {g : Nat} {t : TypeId} {c : Cls} (h : Row w g t c.cells) :
    w.cell? ⟨g, 0, none⟩ = some (.int .i64 c.id) ∧ w.cell? ⟨g, 1, none⟩ = some (.int .i64 c.parent) ∧ w.cell? ⟨g, 2, none⟩ = some (.float .f64 c.share) ∧ w.cell? ⟨g, 3, none⟩ = some (.int .i64 c.prio) ∧
    w.cell? ⟨g, 4, none⟩ = some (.int .i64 c.quantum) ∧ w.cell? ⟨g, 5, none⟩ = some (.int .i64 c.limit) ∧ w.cell? ⟨g, 6, none⟩ = some (.int .i64 c.weight) ∧ w.cell? ⟨g, 7, none⟩ = some (.int .i64 c.minIdle) ∧
    w.cell? ⟨g, 8, none⟩ = some (.int .i64 c.maxIdle) ∧ w.cell? ⟨g, 9, none⟩ = some (.bool c.bounded) ∧ w.cell? ⟨g, 10, none⟩ = some (.bool c.isolated) :=
  ⟨h.cell 0, h.cell 1, h.cell 2, h.cell 3, h.cell 4, h.cell 5, h.cell 6, h.cell 7, h.cell 8, h.cell 9, h.cell 10⟩

def exC (b : Nat) : Cls := ⟨1, 0, b, 0, 1, 1, 0, 0, 0, false, false⟩
theorem ex1 : rightS (exC 4611686018427387904) = 13 := by decide +kernel
theorem ex2 : rightS (exC 4607182418800017408) = 0 := by
  have hu : unitsS 4607182418800017408 = (2 ^ 20, 0) := by
    unfold unitsS
    rw [if_neg (by decide +kernel), if_neg (by decide +kernel)]
    have h := mag_one
    unfold one at h
    rw [show 4607182418800017408 % 9223372036854775808 = 4607182418800017408 from rfl, h, Nat.mul_comm]
    unfold rhe
    have hp := U_pos
    rw [Nat.mul_div_cancel _ hp, Nat.mul_mod_left, if_neg (by omega)]
  unfold rightS exC fairS
  simp [hu]
theorem ex3 : rightS (exC 9221120237041090560) = 21 := by decide +kernel

set_option maxRecDepth 20000 in
set_option maxHeartbeats 1000000 in
theorem lives_any (w : World) : Calls Try.prog 46 #[] w fun e w' => e = .returned (.bool true) ∧ Below w.heap.size w w' := by
  go_enter Try.func46, Try.ntmps46
  go_wp2_with fail
  have h1 := right_any (exC 4611686018427387904) (by decide)
  rw [ex1] at h1
  have hrow := row_new w 64 (exC 4611686018427387904).cells
  refine (h1 _).mono ?_; rintro e w1 ⟨rfl, hb1⟩
  clear h1
  have hr1 := hrow.below hb1 (by simp)
  have hfz := hr1.frozen 2
  obtain ⟨f0, f1, f2, f3, f4, f5, f6, f7, f8, f9, f10⟩ := cls_cells hr1
  have Hr1 := Lib.hid hr1
  simp only [exC] at f0 f1 f2 f3 f4 f5 f6 f7 f8 f9 f10
  have hw1 : Below w.heap.size w w1 := ((Below.refl _ w).alloc (Nat.le_refl _) _).trans (hb1.mono (by simp))
  have hz1 : w.heap.size < w1.heap.size := by have := hb1.size; simp at this; omega
  clear hrow hr1 hb1
  go_wp2_with fail
  have h2 := right_any (exC 4607182418800017408) (by decide)
  rw [ex2] at h2
  refine (h2 _).mono ?_; rintro e w2 ⟨rfl, hb2⟩
  clear h2
  have hr2 := (Hr1.out.set 2 (.float .f64 4607182418800017408)).below hb2 (by simpa using hz1)
  clear f0 f1 f2 f3 f4 f5 f6 f7 f8 f9 f10 hfz
  obtain ⟨f0, f1, f2, f3, f4, f5, f6, f7, f8, f9, f10⟩ := cls_cells (c := exC 4607182418800017408) hr2
  simp only [exC] at f0 f1 f2 f3 f4 f5 f6 f7 f8 f9 f10
  have hw2 : Below w.heap.size w w2 := (hw1.setCell (p := ⟨w.heap.size, 2, none⟩) (Nat.le_refl _) _).trans (hb2.mono (by simpa using hw1.size))
  clear hr2 hb2
  go_wp2_with fail
  refine (of_any (exC 4607182418800017408) 9221120237041090560 _).mono ?_; rintro e w3 ⟨rfl, hb3⟩
  have hw3 : Below w.heap.size w w3 := hw2.trans (hb3.mono hw2.size)
  clear hb3
  go_wp2_with fail
  have h3 := right_any (exC 9221120237041090560) (by decide)
  rw [ex3] at h3
  refine (h3 _).mono ?_; rintro e w4 ⟨rfl, hb4⟩
  have hw4 : Below w.heap.size w w4 := hw3.trans (hb4.mono hw3.size)
  go_wp2_with fail
  go_ret
  exact ⟨rfl, hw4⟩

end Go.Proofs.Ytdoemgccmjddcaa.Cl
