/- The questions' functions, questions, filter.Right. -/
import Derived.Test.YtpchhfhmopmagaaGreatFi3
set_option linter.unusedVariables false
set_option linter.unusedSimpArgs false
namespace Go.Proofs.YtpchhfhmopmagaaGreat.Fi
open Go.RowKit Wd

theorem new_f (w : World) (f : F) : Below w.heap.size w (w.alloc (.cells #[.int .i64 f.id, .int .i64 f.prio, .int .i64 f.ver, .int .u64 f.sh, .int .u64 f.sl, .int .u64 f.dh, .int .u64 f.dl, .int .i64 f.sn, .int .i64 f.dn, .int .i64 f.proto, .int .i64 f.s0, .int .i64 f.s1, .int .i64 f.d0, .int .i64 f.d1, .int .i64 f.leaf] 98)) := (Below.refl _ w).alloc (Nat.le_refl _) _
def RetB (b : Bool) (w : World) (e : Ending) (w' : World) : Prop := e = .returned (.bool b) ∧ Below w.heap.size w w'

theorem q0_c (f : F) (w : World) : Calls Tryz.prog 246 #[f.agg] w (RetB (qs f 0) w) := by
  have HB := Lib.hid (new_f w f)
  unfold qs RetB
  unfold F.agg
  by_cases h0 : 1 ≤ f.id
  · have d1 : decide (1 ≤ f.id) = true := decide_eq_true h0
    clear h0
    go_enter Tryz.func246, Tryz.ntmps246
    go_wp2
    go_ret
    exact ⟨by simp [d1], HB.out⟩
  · have d1 : decide (1 ≤ f.id) = false := decide_eq_false h0
    clear h0
    go_enter Tryz.func246, Tryz.ntmps246
    go_wp2
    go_ret
    exact ⟨by simp [d1], HB.out⟩
theorem q1_c (f : F) (w : World) : Calls Tryz.prog 247 #[f.agg] w (RetB (qs f 1) w) := by
  have HB := Lib.hid (new_f w f)
  unfold qs RetB
  unfold F.agg
  by_cases h0 : 0 ≤ f.prio
  · have d1 : decide (0 ≤ f.prio) = true := decide_eq_true h0
    clear h0
    go_enter Tryz.func247, Tryz.ntmps247
    go_wp2
    go_ret
    exact ⟨by simp [d1], HB.out⟩
  · have d1 : decide (0 ≤ f.prio) = false := decide_eq_false h0
    clear h0
    go_enter Tryz.func247, Tryz.ntmps247
    go_wp2
    go_ret
    exact ⟨by simp [d1], HB.out⟩
theorem q2_c (f : F) (w : World) : Calls Tryz.prog 248 #[f.agg] w (RetB (qs f 2) w) := by
  have HB := Lib.hid (new_f w f)
  have cB := Lib.hid (bits_c f.ver)
  unfold qs RetB
  unfold F.agg
  by_cases h0 : f.ver = 0
  · have d1 : (f.ver == 0) = true := by rw [beq_iff_eq]; exact h0
    rw [decide_eq_true h0]
    clear h0
    go_enter Tryz.func248, Tryz.ntmps248
    go_wp2
    go_ret
    exact ⟨by simp, HB.out⟩
  · have d1 : (f.ver == 0) = false := by rw [beq_eq_false_iff_ne]; exact h0
    rw [decide_eq_false h0]
    clear h0
    generalize bitsV f.ver = bv at *
    go_enter Tryz.func248, Tryz.ntmps248
    go_wp2_with (go_at_call 249; (with_reducible refine (cB.out _).mono ?_); rintro e w' ⟨rfl, rfl⟩)
    go_ret
    exact ⟨by simp, HB.out⟩
theorem q3_c (f : F) (w : World) : Calls Tryz.prog 250 #[f.agg] w (RetB (qs f 3) w) := by
  have HB := Lib.hid (new_f w f)
  have c1 := Lib.hid (prefix_c f.ver f.sh f.sl f.sn f.ok.2.1.1 f.ok.2.1.2.1)
  have c2 := Lib.hid (prefix_c f.ver f.dh f.dl f.dn f.ok.2.1.2.2.1 f.ok.2.1.2.2.2)
  unfold qs RetB
  unfold adr at c1 c2
  unfold F.agg
  generalize prefixR f.ver f.sh f.sl f.sn = p1 at *
  generalize prefixR f.ver f.dh f.dl f.dn = p2 at *
  cases p1 with
  | true =>
    go_enter Tryz.func250, Tryz.ntmps250
    go_wp2_with (first
      | (go_at_call 251; (with_reducible refine (c1.out _).mono ?_); rintro e w2 ⟨rfl, hb2⟩; have HB2 := Lib.hid (HB.out.trans (hb2.mono (by simp))); have L2 := Lib.hid hb2; clear hb2
         have x0 : w2.cell? ⟨w.heap.size, 2, none⟩ = some (.int .i64 f.ver) := (L2.out.cell (p := ⟨w.heap.size, 2, none⟩) (by simp)).trans ((row_new w 98 f.cells).cell 2)
         have x1 : w2.cell? ⟨w.heap.size, 5, none⟩ = some (.int .u64 f.dh) := (L2.out.cell (p := ⟨w.heap.size, 5, none⟩) (by simp)).trans ((row_new w 98 f.cells).cell 5)
         have x2 : w2.cell? ⟨w.heap.size, 6, none⟩ = some (.int .u64 f.dl) := (L2.out.cell (p := ⟨w.heap.size, 6, none⟩) (by simp)).trans ((row_new w 98 f.cells).cell 6)
         have x3 : w2.cell? ⟨w.heap.size, 8, none⟩ = some (.int .i64 f.dn) := (L2.out.cell (p := ⟨w.heap.size, 8, none⟩) (by simp)).trans ((row_new w 98 f.cells).cell 8))
      | (go_at_call 251; (with_reducible refine (c2.out w2).mono ?_); rintro e w3 ⟨rfl, hb3⟩; have HB3 := Lib.hid (HB2.out.trans (hb3.mono HB2.out.size)); clear hb3))
    go_ret
    exact ⟨by simp, HB3.out⟩
  | false =>
    go_enter Tryz.func250, Tryz.ntmps250
    go_wp2_with (go_at_call 251; (with_reducible refine (c1.out _).mono ?_); rintro e w2 ⟨rfl, hb2⟩; have HB2 := Lib.hid (HB.out.trans (hb2.mono (by simp))); clear hb2)
    go_ret
    exact ⟨by simp, HB2.out⟩
theorem q4_c (f : F) (w : World) : Calls Tryz.prog 252 #[f.agg] w (RetB (qs f 4) w) := by
  have HB := Lib.hid (new_f w f)
  unfold qs RetB
  unfold F.agg
  by_cases h0 : -1 ≤ f.proto
  · have d1 : decide (-1 ≤ f.proto) = true := decide_eq_true h0
    clear h0
    go_enter Tryz.func252, Tryz.ntmps252
    go_wp2
    go_ret
    exact ⟨by simp [d1], HB.out⟩
  · have d1 : decide (-1 ≤ f.proto) = false := decide_eq_false h0
    clear h0
    go_enter Tryz.func252, Tryz.ntmps252
    go_wp2
    go_ret
    exact ⟨by simp [d1], HB.out⟩
theorem q5_c (f : F) (w : World) : Calls Tryz.prog 253 #[f.agg] w (RetB (qs f 5) w) := by
  have HB := Lib.hid (new_f w f)
  have c1 := Lib.hid (span_c f.s0 f.s1)
  have c2 := Lib.hid (span_c f.d0 f.d1)
  unfold qs RetB
  unfold F.agg
  generalize spanR f.s0 f.s1 = p1 at *
  generalize spanR f.d0 f.d1 = p2 at *
  cases p1 with
  | true =>
    go_enter Tryz.func253, Tryz.ntmps253
    go_wp2_with (first
      | (go_at_call 254; (with_reducible refine (c1.out _).mono ?_); rintro e w2 ⟨rfl, hb2⟩; have HB2 := Lib.hid (HB.out.trans (hb2.mono (by simp))); have L2 := Lib.hid hb2; clear hb2
         have x0 : w2.cell? ⟨w.heap.size, 12, none⟩ = some (.int .i64 f.d0) := (L2.out.cell (p := ⟨w.heap.size, 12, none⟩) (by simp)).trans ((row_new w 98 f.cells).cell 12)
         have x1 : w2.cell? ⟨w.heap.size, 13, none⟩ = some (.int .i64 f.d1) := (L2.out.cell (p := ⟨w.heap.size, 13, none⟩) (by simp)).trans ((row_new w 98 f.cells).cell 13))
      | (go_at_call 254; (with_reducible refine (c2.out w2).mono ?_); rintro e w3 ⟨rfl, hb3⟩; have HB3 := Lib.hid (HB2.out.trans (hb3.mono HB2.out.size)); clear hb3))
    go_ret
    exact ⟨by simp, HB3.out⟩
  | false =>
    go_enter Tryz.func253, Tryz.ntmps253
    go_wp2_with (go_at_call 254; (with_reducible refine (c1.out _).mono ?_); rintro e w2 ⟨rfl, hb2⟩; have HB2 := Lib.hid (HB.out.trans (hb2.mono (by simp))); clear hb2)
    go_ret
    exact ⟨by simp, HB2.out⟩
theorem q6_c (f : F) (w : World) : Calls Tryz.prog 255 #[f.agg] w (RetB (qs f 6) w) := by
  have HB := Lib.hid (new_f w f)
  unfold qs RetB
  unfold F.agg
  by_cases h0 : 1 ≤ f.leaf
  · have d1 : decide (1 ≤ f.leaf) = true := decide_eq_true h0
    clear h0
    go_enter Tryz.func255, Tryz.ntmps255
    go_wp2
    go_ret
    exact ⟨by simp [d1], HB.out⟩
  · have d1 : decide (1 ≤ f.leaf) = false := decide_eq_false h0
    clear h0
    go_enter Tryz.func255, Tryz.ntmps255
    go_wp2
    go_ret
    exact ⟨by simp [d1], HB.out⟩
/-- the functions' numbers -/
def fq : Nat → Nat
  | 0 => 246
  | 1 => 247
  | 2 => 248
  | 3 => 250
  | 4 => 252
  | 5 => 253
  | _ => 255
theorem fq_c (f : F) (k : Nat) (w : World) : Calls Tryz.prog (fq k) #[f.agg] w (RetB (qs f k) w) := by
  match k with
  | 0 => exact q0_c f w
  | 1 => exact q1_c f w
  | 2 => exact q2_c f w
  | 3 => exact q3_c f w
  | 4 => exact q4_c f w
  | 5 => exact q5_c f w
  | n + 6 => exact q6_c f w
def qcells : List Value := (List.range 7).flatMap (fun k => [.int .i64 (qe k), .func (.func (fq k)) #[] #[]])
theorem questions_c (w : World) : Calls Tryz.prog 204 #[] w fun e w' => e = .returned (.slice (some ⟨w.heap.size, 0, none⟩) 7 7) ∧ w' = w.alloc (.cells qcells.toArray 255) := by
  go_enter Tryz.func204, Tryz.ntmps204
  go_wp2
  go_ret
  exact ⟨rfl, rfl⟩
end Go.Proofs.YtpchhfhmopmagaaGreat.Fi
