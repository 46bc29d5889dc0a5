/- Calls of no gauge; the states carried over. gauge.Carry of a gauge; gauge.Copy. maps.Clone; gauge.Copy. The document's gauges: Carry of rows. The law GaugeCarries. -/
import Derived.Test.YtpchhfhmopmagaaGreatGbM
import Derived.Laws.Externs
import Derived.MapKept
set_option linter.unusedVariables false
set_option linter.unusedSimpArgs false
/- Calls of no gauge; the states carried over. -/
namespace Go.Proofs.YtpchhfhmopmagaaGreat.Rg
open Go.RowKit Go.Maps Wd Li St Sr Go.Proofs.YtpchhfhmopmagaaGreat.Mp Go.Proofs.YtpchhfhmopmagaaGreat.Cl Go.Proofs.YtpchhfhmopmagaaGreat.So Go.Proofs.YtpchhfhmopmagaaGreat.Tr Go.Proofs.YtpchhfhmopmagaaGreat.Tp Go.Proofs.YtpchhfhmopmagaaGreat.Sw Go.Proofs.YtpchhfhmopmagaaGreat.Id Go.Proofs.YtpchhfhmopmagaaGreat.Ga Go.Proofs.YtpchhfhmopmagaaGreat.Cf Go.Proofs.YtpchhfhmopmagaaGreat.Fi Go.Proofs.YtpchhfhmopmagaaGreat.Pa Go.Proofs.YtpchhfhmopmagaaGreat.Qu
attribute [local go_sem] run_store_float Lx.opX Rel.oneOk
attribute [local irreducible] Lx.wpX

set_option maxRecDepth 20000 in
set_option maxHeartbeats 1000000 in
theorem gsent_nil (leaf size now : Int) (w : World) : Calls Tryz.prog 22 #[.pointer none, .int .i64 leaf, .int .i64 size, .int .i64 now] w fun e w' => e = .returned (.bool false) ∧ Below w.heap.size w w' := by
  have hU0 : (((w.alloc (.cells #[.pointer none] 42)).alloc (.cells #[.int .i64 size] 3)).alloc (.cells #[.int .i64 now] 3)).heap[w.heap.size]? = some (.cells #[.pointer none] 42 (0, 0)) := (Below.heap_alloc _ _ _ (by simp; omega)).trans ((Below.heap_alloc _ _ _ (by simp)).trans (heap_alloc_new _ _))
  have hUb := cbx_b w (.cells #[.pointer none] 42) (.cells #[.int .i64 size] 3) (.cells #[.int .i64 now] 3)
  have HU0 := Lib.hid hU0; have HUB := Lib.hid hUb
  clear hU0 hUb
  refine (callsIn_wide (n := 6)).1 (callsIn_of_wp_marks Tryz.func22 rfl trivial ?_ rfl)
  simp only [Tryz.ntmps22, List.size_toArray, List.length_cons, List.length_nil, Nat.reduceAdd, Nat.reduceSub, Array.replicate_succ, Array.replicate_zero, List.push_toArray, List.append_toArray, List.nil_append, List.cons_append]
  gi_upto_region 1 with fail
  generalize World.alloc (World.alloc (World.alloc w _) _) _ = U at *
  have x4 := cells_at HU0.out 0 (.pointer none) rfl
  gi_wp2_with (refine ⟨trivial, ?_⟩)
  exact ⟨_, results_tmp rfl _ _ _, rfl, HUB.out⟩
set_option maxRecDepth 20000 in
theorem gover_nil (id now : Int) (w : World) : Calls Tryz.prog 40 #[.pointer none, .int .i64 id, .int .i64 now] w fun e w' => e = .returned (.bool false) ∧ Below w.heap.size w w' := by
  have HS := Lib.hid (state_nil id w)
  unfold StateOk at HS
  simp only [Option.getD_none, Option.isSome_none] at HS
  unfold S3.nil S3.agg at HS
  go_enter Tryz.func40, Tryz.ntmps40
  go_upto_region 2 with (go_at_call 24; (with_reducible refine (HS.out).mono ?_); rintro e w1 ⟨rfl, hb1⟩; have HB1 := Lib.hid hb1; clear hb1)
  have HB2 := Lib.hid (HB1.out.alloc HB1.out.size (.cells #[.int .i64 0, .int .i64 0, .int .i64 0] 46))
  generalize World.alloc w1 _ = u at *
  go_wp2_with fail
  go_ret
  exact ⟨rfl, HB2.out⟩
set_option maxRecDepth 20000 in
theorem govers_nil (now : Int) (w : World) : Calls Tryz.prog 41 #[.pointer none, .int .i64 now] w fun e w' => e = .returned (.slice none 0 0) ∧ w = w' := by
  go_enter Tryz.func41, Tryz.ntmps41
  go_wp2
  go_ret
  exact ⟨rfl, rfl⟩
set_option maxRecDepth 20000 in
theorem gwake_nil (id now : Int) (w : World) : Calls Tryz.prog 42 #[.pointer none, .int .i64 id, .int .i64 now] w fun e w' => e = .returned (.int .i64 now) ∧ Below w.heap.size w w' := by
  have HO := Lib.hid (gover_nil id now w)
  go_enter Tryz.func42, Tryz.ntmps42
  go_wp2_with (go_at_call 40; (with_reducible refine (HO.out).mono ?_); rintro e w1 ⟨rfl, hb1⟩; have HB1 := Lib.hid hb1; clear hb1)
  go_ret
  exact ⟨rfl, HB1.out⟩
set_option maxRecDepth 20000 in
theorem gcopy_nil (w : World) : Calls Tryz.prog 43 #[.pointer none] w fun e w' => e = .returned (.pointer none) ∧ w = w' := by
  go_enter Tryz.func43, Tryz.ntmps43
  go_wp2
  go_ret
  exact ⟨rfl, rfl⟩
set_option maxRecDepth 20000 in
theorem gcarry_nil (now : Int) (w : World) : Calls Tryz.prog 44 #[.pointer none, .pointer none, .int .i64 now] w fun e w' => e = .returned (.pointer none) ∧ w = w' := by
  go_enter Tryz.func44, Tryz.ntmps44
  go_wp2
  go_ret
  exact ⟨rfl, rfl⟩
theorem triA (w : World) (o1 o2 o3 : Obj) :
    let E := ((w.alloc o1).alloc o2).alloc o3
    E.heap[w.heap.size]? = some o1 ∧ E.heap[w.heap.size + 1]? = some o2 ∧ E.heap[w.heap.size + 1 + 1]? = some o3 ∧ Below w.heap.size w E ∧ E.heap.size = w.heap.size + 3 := by
  have keep : ∀ {w : World} {k : Nat} {x : Obj} (o : Obj), w.heap[k]? = some x → (w.alloc o).heap[k]? = some x := fun {w k x} o h => (Below.heap_alloc w o k (Array.getElem?_eq_some_iff.1 h).1).trans h
  have z1 : (w.alloc o1).heap.size = w.heap.size + 1 := by simp
  have z2 : ((w.alloc o1).alloc o2).heap.size = w.heap.size + 2 := by simp
  have z3 : (((w.alloc o1).alloc o2).alloc o3).heap.size = w.heap.size + 3 := by simp
  have n1 := heap_alloc_new w o1
  have n2 := heap_alloc_new (w.alloc o1) o2
  have n3 := heap_alloc_new ((w.alloc o1).alloc o2) o3
  rw [z1] at n2; rw [z2] at n3
  exact ⟨keep _ (keep _ n1), keep _ n2, n3, (((Below.refl _ w).alloc (Nat.le_refl _) _).alloc (by omega) _).alloc (by omega) _, z3⟩
set_option maxRecDepth 20000 in
set_option maxHeartbeats 1000000 in
theorem icarry_c (s : S3) (c : Cls) (hs : c.share < 18446744073709551616) (hr : rightS c = 0) (w : World) :
    Calls Tryz.prog 90 #[s.agg, c.agg] w fun e w' => e = .returned (carryI s c).agg ∧ Below w.heap.size w w' := by
  have HR := Lib.hid (iright_c c hs)
  rw [hr] at HR
  have HH := Lib.hid (fun (u : World) => held_c s.a c u)
  unfold Cls.agg at HR HH
  unfold carryI S3.agg Cls.agg
  generalize heldI s.a c = ha at *
  have h3 := triA w (.cells #[.int .i64 s.l, .int .i64 s.a, .int .i64 s.u] 46) (.cells #[.int .i64 c.id, .int .i64 c.parent, .float .f64 c.share, .int .i64 c.prio, .int .i64 c.quantum, .int .i64 c.limit, .int .i64 c.weight, .int .i64 c.minIdle, .int .i64 c.maxIdle, .bool c.bounded, .bool c.isolated] 84) (.cells #[.int .i64 0, .int .i64 0, .int .i64 0] 46)
  simp only at h3
  obtain ⟨h0, h1, h2, hb0, hz0⟩ := h3
  have H0 := Lib.hid h0; have H1 := Lib.hid h1; have H2 := Lib.hid h2; have HB0 := Lib.hid hb0
  clear h0 h1 h2 hb0
  go_enter Tryz.func90, Tryz.ntmps90
  go_upto_region 1 with fail
  generalize World.alloc (World.alloc (World.alloc w _) _) _ = U at *
  obtain ⟨a, ha0⟩ : ∃ a, a = w.heap.size := ⟨_, rfl⟩
  obtain ⟨b, hb0⟩ : ∃ b, b = w.heap.size + 1 := ⟨_, rfl⟩
  obtain ⟨d, hd0⟩ : ∃ d, d = w.heap.size + 1 + 1 := ⟨_, rfl⟩
  rw [← hd0] at H2 ⊢
  rw [← hb0] at H1 ⊢
  rw [← ha0] at H0 ⊢
  have haU : a < U.heap.size := by omega
  have hbU : b < U.heap.size := by omega
  have hdU : d < U.heap.size := by omega
  have hwa : w.heap.size ≤ a := by omega
  have hwd : w.heap.size ≤ d := by omega
  have hab : a ≠ d := by omega
  have hda : d ≠ a := by omega
  clear ha0 hb0 hd0 hz0
  have f0 := cells_at H1.out 0 (.int .i64 c.id) rfl; have f1 := cells_at H1.out 1 (.int .i64 c.parent) rfl; have f2 := cells_at H1.out 2 (.float .f64 c.share) rfl; have f3 := cells_at H1.out 3 (.int .i64 c.prio) rfl; have f4 := cells_at H1.out 4 (.int .i64 c.quantum) rfl; have f5 := cells_at H1.out 5 (.int .i64 c.limit) rfl; have f6 := cells_at H1.out 6 (.int .i64 c.weight) rfl; have f7 := cells_at H1.out 7 (.int .i64 c.minIdle) rfl; have f8 := cells_at H1.out 8 (.int .i64 c.maxIdle) rfl; have f9 := cells_at H1.out 9 (.bool c.bounded) rfl; have f10 := cells_at H1.out 10 (.bool c.isolated) rfl
  go_upto_region 2 with (go_at_call 137; (with_reducible refine (HR.out _).mono ?_); rintro e w1 ⟨rfl, hb⟩; have HB := Lib.hid hb; clear hb)
  have hw1 := HB.out.size
  have K0 := Lib.hid ((HB.out.block a haU).trans H0.out)
  have K1 := Lib.hid ((HB.out.block b hbU).trans H1.out)
  have K2 := Lib.hid ((HB.out.block d hdU).trans H2.out)
  have HBW := Lib.hid (HB0.out.trans (HB.out.mono HB0.out.size))
  clear f0 f1 f2 f3 f4 f5 f6 f7 f8 f9 f10 H0 H1 H2 HB0 HR
  have x1 := cells_at K0.out 1 (.int .i64 s.a) rfl
  have f0 := cells_at K1.out 0 (.int .i64 c.id) rfl; have f1 := cells_at K1.out 1 (.int .i64 c.parent) rfl; have f2 := cells_at K1.out 2 (.float .f64 c.share) rfl; have f3 := cells_at K1.out 3 (.int .i64 c.prio) rfl; have f4 := cells_at K1.out 4 (.int .i64 c.quantum) rfl; have f5 := cells_at K1.out 5 (.int .i64 c.limit) rfl; have f6 := cells_at K1.out 6 (.int .i64 c.weight) rfl; have f7 := cells_at K1.out 7 (.int .i64 c.minIdle) rfl; have f8 := cells_at K1.out 8 (.int .i64 c.maxIdle) rfl; have f9 := cells_at K1.out 9 (.bool c.bounded) rfl; have f10 := cells_at K1.out 10 (.bool c.isolated) rfl
  have ha1 : a < w1.heap.size := Nat.lt_of_lt_of_le haU hw1
  have hd1 : d < w1.heap.size := Nat.lt_of_lt_of_le hdU hw1
  have hB2 := (Below.refl w1.heap.size w1).alloc (Nat.le_refl _) (.cells #[.int .i64 c.id, .int .i64 c.parent, .float .f64 c.share, .int .i64 c.prio, .int .i64 c.quantum, .int .i64 c.limit, .int .i64 c.weight, .int .i64 c.minIdle, .int .i64 c.maxIdle, .bool c.bounded, .bool c.isolated] 84)
  have HB2 := Lib.hid hB2
  have k0 := (hB2.block a ha1).trans K0.out
  have k2 := (hB2.block d hd1).trans K2.out
  have y1 := cells_at k0 1 (.int .i64 s.a) rfl
  have z1 := frozen_at' k0 1
  have hsz : (w1.setCell ⟨a, 1, none⟩ (.int .i64 ha)).heap.size = w1.heap.size := by simp [World.setCell]
  have k3 := (Below.heap_alloc (w1.setCell ⟨a, 1, none⟩ (.int .i64 ha)) (.cells #[.int .i64 c.id, .int .i64 c.parent, .float .f64 c.share, .int .i64 c.prio, .int .i64 c.quantum, .int .i64 c.limit, .int .i64 c.weight, .int .i64 c.minIdle, .int .i64 c.maxIdle, .bool c.bounded, .bool c.isolated] 84) a (by rw [hsz]; exact ha1)).trans (Cf.set_cells K0.out 1 (.int .i64 ha))
  have k4 := (Below.heap_alloc (w1.setCell ⟨a, 1, none⟩ (.int .i64 ha)) (.cells #[.int .i64 c.id, .int .i64 c.parent, .float .f64 c.share, .int .i64 c.prio, .int .i64 c.quantum, .int .i64 c.limit, .int .i64 c.weight, .int .i64 c.minIdle, .int .i64 c.maxIdle, .bool c.bounded, .bool c.isolated] 84) d (by rw [hsz]; exact hd1)).trans ((Below.heap_setCell w1 ⟨a, 1, none⟩ (.int .i64 ha) d hda).trans K2.out)
  have hb5 := (HBW.out.setCell (p := ⟨a, 1, none⟩) hwa (.int .i64 ha)).alloc (by rw [hsz]; exact HBW.out.size) (.cells #[.int .i64 c.id, .int .i64 c.parent, .float .f64 c.share, .int .i64 c.prio, .int .i64 c.quantum, .int .i64 c.limit, .int .i64 c.weight, .int .i64 c.minIdle, .int .i64 c.maxIdle, .bool c.bounded, .bool c.isolated] 84)
  simp only [List.setIfInBounds_toArray, List.set_cons_succ, List.set_cons_zero] at k3
  have HK3 := Lib.hid k3; have HK4 := Lib.hid k4; have HB5 := Lib.hid hb5
  clear k0 k2 k3 k4 hb5 hB2 hsz
  go_upto_region 3 with (go_at_call 140; (with_reducible refine (HH.out _).mono ?_); rintro e w2 ⟨rfl, rfl⟩)
  clear x1 y1 z1 f0 f1 f2 f3 f4 f5 f6 f7 f8 f9 f10
  generalize World.alloc (World.setCell _ _ _) _ = V at *
  have r0 := cells_at HK3.out 0 (.int .i64 s.l) rfl; have r1 := cells_at HK3.out 1 (.int .i64 ha) rfl; have r2 := cells_at HK3.out 2 (.int .i64 s.u) rfl
  go_wp2_with (first | (refine wpList_store_whole (by rfl) 46 _ _ (by rfl) 3 Tryz.sizeOf46 d _ _ 46 (by rfl) (by rfl) HK4.out (by rfl) (by rfl) (by simp [Value.oneCell']) ?_; intro w6 hb6 hg6; have q0 := cells_at hb6 0 _ rfl; have q1 := cells_at hb6 1 _ rfl; have q2 := cells_at hb6 2 _ rfl; have HG6 := Lib.hid hg6; clear hb6 hg6))
  (try simp only [Exit.inBlock, Exit.then])
  refine bodyPost_ret (v := .agg #[.int .i64 s.l, .int .i64 ha, .int .i64 s.u]) (by simp [results, Tryz.results90, go_sem, q0, q1, q2]) rfl ?_
  exact ⟨rfl, HB5.out.grown HG6.out HB5.out.size (fun q hq => by injection hq; omega)⟩
set_option maxRecDepth 20000 in
set_option maxHeartbeats 1000000 in
theorem refcarryI_c (s : S3) (c : Cls) (hs : c.share < 18446744073709551616) (hr : rightS c = 0) (w : World) :
    Calls Tryz.prog 94 #[s.agg, c.agg] w fun e w' => e = .returned (carryI s c).agg ∧ Below w.heap.size w w' := by
  have HR := Lib.hid (refright_any c hs)
  rw [hr] at HR
  obtain ⟨_, hmi, hma⟩ := right_idle hr
  have HH := Lib.hid (fun (u : World) => within_c s.a c (by omega) u)
  clear hmi hma
  unfold Cls.agg at HR HH
  unfold Ret1 at HR
  unfold carryI S3.agg Cls.agg
  generalize heldI s.a c = ha at *
  have h3 := triA w (.cells #[.int .i64 s.l, .int .i64 s.a, .int .i64 s.u] 138) (.cells #[.int .i64 c.id, .int .i64 c.parent, .float .f64 c.share, .int .i64 c.prio, .int .i64 c.quantum, .int .i64 c.limit, .int .i64 c.weight, .int .i64 c.minIdle, .int .i64 c.maxIdle, .bool c.bounded, .bool c.isolated] 84) (.cells #[.int .i64 0, .int .i64 0, .int .i64 0] 138)
  simp only at h3
  obtain ⟨h0, h1, h2, hb0, hz0⟩ := h3
  have H0 := Lib.hid h0; have H1 := Lib.hid h1; have H2 := Lib.hid h2; have HB0 := Lib.hid hb0
  clear h0 h1 h2 hb0
  go_enter Tryz.func94, Tryz.ntmps94
  go_upto_region 1 with fail
  generalize World.alloc (World.alloc (World.alloc w _) _) _ = U at *
  obtain ⟨a, ha0⟩ : ∃ a, a = w.heap.size := ⟨_, rfl⟩
  obtain ⟨b, hb0⟩ : ∃ b, b = w.heap.size + 1 := ⟨_, rfl⟩
  obtain ⟨d, hd0⟩ : ∃ d, d = w.heap.size + 1 + 1 := ⟨_, rfl⟩
  rw [← hd0] at H2 ⊢
  rw [← hb0] at H1 ⊢
  rw [← ha0] at H0 ⊢
  have haU : a < U.heap.size := by omega
  have hbU : b < U.heap.size := by omega
  have hdU : d < U.heap.size := by omega
  have hwd : w.heap.size ≤ d := by omega
  clear ha0 hb0 hd0 hz0
  have f0 := cells_at H1.out 0 (.int .i64 c.id) rfl; have f1 := cells_at H1.out 1 (.int .i64 c.parent) rfl; have f2 := cells_at H1.out 2 (.float .f64 c.share) rfl; have f3 := cells_at H1.out 3 (.int .i64 c.prio) rfl; have f4 := cells_at H1.out 4 (.int .i64 c.quantum) rfl; have f5 := cells_at H1.out 5 (.int .i64 c.limit) rfl; have f6 := cells_at H1.out 6 (.int .i64 c.weight) rfl; have f7 := cells_at H1.out 7 (.int .i64 c.minIdle) rfl; have f8 := cells_at H1.out 8 (.int .i64 c.maxIdle) rfl; have f9 := cells_at H1.out 9 (.bool c.bounded) rfl; have f10 := cells_at H1.out 10 (.bool c.isolated) rfl
  go_upto_region 3 with (go_at_call 146; (with_reducible refine (HR.out _).mono ?_); rintro e w1 ⟨rfl, hb⟩; have HB := Lib.hid hb; clear hb)
  have hw1 := HB.out.size
  have K0 := Lib.hid ((HB.out.block a haU).trans H0.out)
  have K1 := Lib.hid ((HB.out.block b hbU).trans H1.out)
  have K2 := Lib.hid ((HB.out.block d hdU).trans H2.out)
  have HBW := Lib.hid (HB0.out.trans (HB.out.mono HB0.out.size))
  have hd1 : d < w1.heap.size := Nat.lt_of_lt_of_le hdU hw1
  have HSB : Hid (∀ q, (q = a ∨ q = b) → q < w1.heap.size) := Lib.hid (fun q hq => by rcases hq with e | e <;> omega)
  clear f0 f1 f2 f3 f4 f5 f6 f7 f8 f9 f10 H0 H1 H2 HB0 HR
  have x0 := cells_at K0.out 0 (.int .i64 s.l) rfl; have x1 := cells_at K0.out 1 (.int .i64 s.a) rfl; have x2 := cells_at K0.out 2 (.int .i64 s.u) rfl
  have f0 := cells_at K1.out 0 (.int .i64 c.id) rfl; have f1 := cells_at K1.out 1 (.int .i64 c.parent) rfl; have f2 := cells_at K1.out 2 (.float .f64 c.share) rfl; have f3 := cells_at K1.out 3 (.int .i64 c.prio) rfl; have f4 := cells_at K1.out 4 (.int .i64 c.quantum) rfl; have f5 := cells_at K1.out 5 (.int .i64 c.limit) rfl; have f6 := cells_at K1.out 6 (.int .i64 c.weight) rfl; have f7 := cells_at K1.out 7 (.int .i64 c.minIdle) rfl; have f8 := cells_at K1.out 8 (.int .i64 c.maxIdle) rfl; have f9 := cells_at K1.out 9 (.bool c.bounded) rfl; have f10 := cells_at K1.out 10 (.bool c.isolated) rfl
  have HD := Lib.hid ((Below.refl w1.heap.size w1).drew)
  refine Lx.wp_region_Y 9 (fun w' => ∃ z, w' = Lx.kept (fun q => q = a ∨ q = b) w1.drew z) [5] (by kernel_rfl) (by kernel_rfl) (Lx.kept_of (Lx.Keeps.refl _ _)) ?_
  simp only [List.take_succ_cons, List.take_zero, List.drop_succ_cons, List.drop_zero]
  repeat (refine Lx.wpX_step (fun K hK => ?_); first | (refine Lx.opX_free (by rfl) (by rfl) (by rfl) ?_; go_big_quiet_op; refine hK _ _ ?_; clear hK K) | (refine Lx.opX_nil (by rfl) (by rfl) (by rfl) (by rfl) ?_; refine hK _ _ ?_; clear hK K; simp only [Act.put, List.setIfInBounds_toArray, List.set_cons_succ, List.set_cons_zero]) | (refine Lx.opX_skip (by rfl) ?_; refine hK _ _ ?_; clear hK K; simp only [Act.put, List.setIfInBounds_toArray, List.set_cons_succ, List.set_cons_zero]))
  refine Lx.wpX_step (fun K hK => ?_)
  refine Lx.opX_law (by rfl) (by rfl) ?_
  go_wp2_with (go_at_call 148; (with_reducible refine (HH.out _).mono ?_); rintro e w2 ⟨rfl, hb5⟩; have hbk := HD.out.trans (hb5.mono HD.out.size); have HB3 := Lib.hid hbk; clear hb5 hbk)
  refine Lx.nq_mk (Lx.kept_of (fun y hy => HB3.out.block y (HSB.out y hy))) (hK _ _ ?_)
  clear hK K
  repeat (refine Lx.wpX_step (fun K hK => ?_); first | (refine Lx.opX_free (by rfl) (by rfl) (by rfl) ?_; go_big_quiet_op; refine hK _ _ ?_; clear hK K) | (refine Lx.opX_nil (by rfl) (by rfl) (by rfl) (by rfl) ?_; refine hK _ _ ?_; clear hK K; simp only [Act.put, List.setIfInBounds_toArray, List.set_cons_succ, List.set_cons_zero]) | (refine Lx.opX_skip (by rfl) ?_; refine hK _ _ ?_; clear hK K; simp only [Act.put, List.setIfInBounds_toArray, List.set_cons_succ, List.set_cons_zero]))
  refine Lx.wpX_nil ?_
  have K3 := Lib.hid ((HB3.out.block d hd1).trans K2.out)
  have HB4 := Lib.hid (HBW.out.trans (HB3.out.mono HBW.out.size))
  clear x0 x1 x2 f0 f1 f2 f3 f4 f5 f6 f7 f8 f9 f10
  go_wp2_with (first | (refine wpList_store_whole (by rfl) 138 _ _ (by rfl) 3 Tryz.sizeOf138 d _ _ 138 (by rfl) (by rfl) K3.out (by rfl) (by rfl) (by simp [Value.oneCell']) ?_; intro w6 hb6 hg6; have q0 := cells_at hb6 0 _ rfl; have q1 := cells_at hb6 1 _ rfl; have q2 := cells_at hb6 2 _ rfl; have HG6 := Lib.hid hg6; clear hb6 hg6))
  (try simp only [Exit.inBlock, Exit.then])
  refine bodyPost_ret (v := .agg #[.int .i64 s.l, .int .i64 ha, .int .i64 s.u]) (by simp [results, Tryz.results94, go_sem, q0, q1, q2]) rfl ?_
  exact ⟨rfl, HB4.out.grown HG6.out HB4.out.size (fun q hq => by injection hq; omega)⟩
/-- a class's state, carried over -/
def carC (old : Int → Option S3) (now : Int) (c : Cls) : S3 := match old c.id with | some s => carryI s c | none => newI c now
def stC (l : List Cls) (old : Int → Option S3) (now : Int) (i : Int) : Option S3 := (at? l i).map (carC old now)
def stCK (l : List Cls) (old : Int → Option S3) (now : Int) (k : Nat) (i : Int) : Option S3 := if i ∈ (ids (sortC l)).take k then (at? l i).map (carC old now) else none
def rowsC (l : List Cls) (old : Int → Option S3) (now : Int) (k : Nat) : List G := ((sortC l).take k).map (fun c => ⟨c.id, carC old now c⟩)
theorem stCK_put {l : List Cls} {old : Int → Option S3} {now : Int} {k : Nat} {i : Int} {x : Cls} (hk : (ids (sortC l))[k]? = some i) (hx : at? l i = some x) : (fun j => if j = i then some (carC old now x) else stCK l old now k j) = stCK l old now (k + 1) := by
  funext j
  unfold stCK
  rw [List.take_add_one, hk]
  by_cases e : j = i
  · subst e; simp [hx]
  · simp [e]
theorem stCK_all (l : List Cls) (old : Int → Option S3) (now : Int) : stCK l old now (ids (sortC l)).length = stC l old now := by
  funext j
  unfold stCK stC
  rw [List.take_length]
  by_cases h : j ∈ ids (sortC l)
  · rw [if_pos h]
  · rw [if_neg h, at_none.2 (fun h2 => h ((sort_ids j).2 h2))]; rfl
theorem stCK_zero (l : List Cls) (old : Int → Option S3) (now : Int) : stCK l old now 0 = fun _ => none := by
  funext j; unfold stCK; simp
theorem car_some {old : Int → Option S3} {now : Int} {c : Cls} {i : Int} {s : S3} (hi : c.id = i) (h : old i = some s) : carC old now c = carryI s c := by unfold carC; rw [hi, h]
theorem car_none {old : Int → Option S3} {now : Int} {c : Cls} {i : Int} (hi : c.id = i) (h : old i = none) : carC old now c = newI c now := by unfold carC; rw [hi, h]
theorem rowsC_succ {l : List Cls} {old : Int → Option S3} {now : Int} {k : Nat} {x : Cls} (hx : (sortC l)[k]? = some x) : rowsC l old now (k + 1) = rowsC l old now k ++ [⟨x.id, carC old now x⟩] := by
  unfold rowsC
  rw [List.take_add_one, hx, List.map_append]; rfl
theorem rowsC_len (l : List Cls) (old : Int → Option S3) (now : Int) (k : Nat) : (rowsC l old now k).length ≤ k := by
  unfold rowsC
  rw [List.length_map]; exact List.length_take_le _ _
theorem Agree.carry {l : List Cls} (R : Tp.Tree l) (old : Int → Option S3) (now : Int) : Agree l (stC l old now) (rowsC l old now l.length) := by
  have e : rowsC l old now l.length = (sortC l).map (fun c => (⟨c.id, carC old now c⟩ : G)) := by
    unfold rowsC; rw [← sortC_len l, List.take_length]
  rw [e]
  refine ⟨?_, fun k x hx => ?_⟩
  · rw [List.map_map]; rfl
  · rw [List.getElem?_map] at hx
    cases hc : (sortC l)[k]? with
    | none => rw [hc] at hx; cases hx
    | some c =>
      rw [hc] at hx
      obtain rfl : (⟨c.id, carC old now c⟩ : G) = x := by simpa using hx
      have hcl := sort_at hc
      unfold stC
      rw [at_is R.good hcl]; rfl
/-- the rows say of a class what the gauge's states say -/
theorem Agree.old {l : List Cls} {st : Int → Option S3} {zs : List G} (R : Tp.Tree l) (h : Agree l st zs) (hin : ∀ i, (st i).isSome = true → i ∈ Tp.ids l) : ofG zs = st := by
  funext i
  by_cases hi : i ∈ Tp.ids (sortC l)
  · rw [← h.ids] at hi
    obtain ⟨x, hx, rfl⟩ := List.mem_map.1 hi
    obtain ⟨k, hk⟩ := List.getElem?_of_mem hx
    rw [Agree.of h R.good hk, h.st k x hk]
  · have h1 : st i = none := by
      cases hs : st i with
      | none => rfl
      | some s => exact absurd ((sort_ids i).2 (hin i (by rw [hs]; rfl))) hi
    rw [h1]
    refine find_none (fun j x hx e => hi ?_)
    rw [← h.ids, ← e]
    exact List.mem_map.2 ⟨x, List.mem_of_getElem? hx, rfl⟩
end Go.Proofs.YtpchhfhmopmagaaGreat.Rg

/- gauge.Carry of a gauge; gauge.Copy. -/
namespace Go.Proofs.YtpchhfhmopmagaaGreat.Rg
open Go.RowKit Go.Maps Wd Li St Sr Go.Proofs.YtpchhfhmopmagaaGreat.Mp Go.Proofs.YtpchhfhmopmagaaGreat.Cl Go.Proofs.YtpchhfhmopmagaaGreat.So Go.Proofs.YtpchhfhmopmagaaGreat.Tr Go.Proofs.YtpchhfhmopmagaaGreat.Tp Go.Proofs.YtpchhfhmopmagaaGreat.Sw Go.Proofs.YtpchhfhmopmagaaGreat.Id Go.Proofs.YtpchhfhmopmagaaGreat.Ga Go.Proofs.YtpchhfhmopmagaaGreat.Cf Go.Proofs.YtpchhfhmopmagaaGreat.Fi Go.Proofs.YtpchhfhmopmagaaGreat.Qu
attribute [local go_sem] run_store_float Lx.opX Rel.oneOk
attribute [local irreducible] Lx.wpX

def CargOk (l : List Cls) (old : Int → Option S3) (now : Int) (S : Nat) (w : World) (e : Ending) (w' : World) : Prop := ∃ g h, e = .returned (.pointer (some ⟨g, 0, none⟩)) ∧ GaugeAt w' g h S (stC l old now) ∧ w.heap.size ≤ g ∧ w.heap.size ≤ h ∧ g ≠ h ∧ Below w.heap.size w w'
set_option maxRecDepth 20000 in
set_option maxHeartbeats 4000000 in
theorem carryg_c (g h0 n0 : Nat) (S0 : Value) (old : Int → Option S3) (t r d : Int) (l : List Cls) (fs : List F) (R : Tp.Tree l) (hs : ∀ c ∈ l, c.share < 18446744073709551616) (S : Nat) (now : Int) (w : World) (hg : w.heap[g]? = some (.cells #[S0, .map (some h0)] 122 (0, 0))) (hm : StM w h0 n0 old) (hS : SetAt w w.heap.size S t r d l fs) :
    Calls Tryz.prog 44 #[.pointer (some ⟨g, 0, none⟩), .pointer (some ⟨S, 0, none⟩), .int .i64 now] w (CargOk l old now S w) := by
  have hmm := @run_makeMap Tryz.prog
  obtain ⟨T, Tb, q, A1, c1, A2, c2, hSl, hSc, hTr, _⟩ := hS
  have h64 := R.le
  have hgl := (Array.getElem?_eq_some_iff.1 hg).1
  have HST := Lib.hid (fun (u : World) (h : Below w.heap.size w u) (id : Int) (hid : (Lit.int .i64 id).wf = true) => state_c g h0 n0 S0 old id hid u ((h.block g hgl).trans hg) (hm.below h hm.lt))
  unfold StateOk at HST
  clear hg hm
  have hG := R.good
  have hU0 : ((w.alloc (.map #[] 0)).alloc (.cells #[.pointer (some ⟨S, 0, none⟩), .map (some w.heap.size)] 122)).heap[w.heap.size]? = some (.map #[] 0) := (Below.heap_alloc _ _ _ (by simp)).trans (heap_alloc_new _ _)
  have hU1 : ((w.alloc (.map #[] 0)).alloc (.cells #[.pointer (some ⟨S, 0, none⟩), .map (some w.heap.size)] 122)).heap[w.heap.size + 1]? = some (.cells #[.pointer (some ⟨S, 0, none⟩), .map (some w.heap.size)] 122 (0, 0)) := by
    have := heap_alloc_new (w.alloc (.map #[] 0)) (.cells #[.pointer (some ⟨S, 0, none⟩), .map (some w.heap.size)] 122)
    simpa using this
  have hUb : Below w.heap.size w ((w.alloc (.map #[] 0)).alloc (.cells #[.pointer (some ⟨S, 0, none⟩), .map (some w.heap.size)] 122)) := ((Below.refl _ w).alloc (Nat.le_refl _) _).alloc (by simp) _
  have hUs : ((w.alloc (.map #[] 0)).alloc (.cells #[.pointer (some ⟨S, 0, none⟩), .map (some w.heap.size)] 122)).heap.size = w.heap.size + 2 := by simp
  have HU0 := Lib.hid hU0; have HU1 := Lib.hid hU1; have HUB := Lib.hid hUb; have HUS := Lib.hid hUs; have HTR := Lib.hid hTr; have HR := Lib.hid R; have HSH := Lib.hid hs; have HSC := Lib.hid hSc
  clear hU0 hU1 hUb hUs hTr R hs hSc
  have HID := Lib.hid (fun u (hu : Below w.heap.size w u) => tids_c T l h64 u ((HTR.out.below hu).up hu.size))
  unfold ListOk at HID
  go_enter Tryz.func44, Tryz.ntmps44
  go_upto_region 4 with fail
  generalize World.alloc (World.alloc w _) _ = U at *
  have s0 := cells_at ((HUB.out.block S hSl).trans HSC.out) 0 (.pointer (some ⟨T, 0, none⟩)) rfl
  go_wp2_with (first
    | (go_at_call 19; (with_reducible refine (settree_c _ _ _ s0).mono ?_); rintro e w' ⟨rfl, rfl⟩)
    | (go_at_call 23; (with_reducible refine (HID.out _ HUB.out).mono ?_); rintro e w2 ⟨A3, c3, rfl, hs2, hb2⟩; have HS2 := Lib.hid hs2; have HB2 := Lib.hid hb2; clear hs2 hb2))
  have hus := HUS.out
  have hw2 := HB2.out.size
  have K0 := Lib.hid ((HB2.out.block w.heap.size (by omega)).trans HU0.out)
  have K1 := Lib.hid ((HB2.out.block (w.heap.size + 1) (by omega)).trans HU1.out)
  have W2 := Lib.hid (HUB.out.trans (HB2.out.mono HUB.out.size))
  have hn2 : w.heap.size + 1 < w2.heap.size := by omega
  have hlen := ids_len l
  have HLEN := Lib.hid hlen
  obtain ⟨zs, hzs⟩ : ∃ zs, zs = ids (sortC l) := ⟨_, rfl⟩
  rw [← hzs] at HS2 ⊢
  have HZS := Lib.hid hzs
  have hzl : zs.length ≤ 64 := by rw [hzs, hlen]; exact h64
  clear hus hw2 HU0 HU1 HUS HID s0 hlen hzs
  go_loopg [24] zs.length (fun kx s24 wr => ∃ k : Nat, s24 = .int .i64 k ∧ k ≤ zs.length ∧ zs.length - k ≤ kx ∧ Hid (StM wr w.heap.size k (stCK l old now k)) ∧ Hid (∀ q, q < w2.heap.size → q ≠ w.heap.size → wr.heap[q]? = w2.heap[q]?) ∧ w2.heap.size ≤ wr.heap.size ∧ Hid (Below w.heap.size w wr))
  case atStart => exact ⟨0, rfl, by omega, by omega, Lib.hid (by rw [stCK_zero]; exact At.made_block K0.out), Lib.hid (fun _ _ _ => rfl), Nat.le_refl _, W2⟩
  case round =>
    obtain ⟨k, rfl, hk, hkx, HM, HQ, hwr, HW⟩ := hrel
    have hSr := Lib.hid (sl_map HS2.out rfl ⟨_, _, K0.out⟩ HQ.out)
    have s0 := cells_at ((HW.out.block S hSl).trans HSC.out) 0 (.pointer (some ⟨T, 0, none⟩)) rfl
    by_cases hlt : k < zs.length
    · have hltz : (k : Int) < (zs.length : Int) := by omega
      obtain ⟨a, rfl, hab, hac⟩ := hSr.out.2 (by omega)
      obtain ⟨id, hid⟩ : ∃ id, zs[k]? = some id := ⟨_, List.getElem?_eq_getElem hlt⟩
      have ck := hac k (.int .i64 id) (by unfold St.I; rw [List.getElem?_map, hid]; rfl)
      have hidl : id ∈ ids l := (sort_ids id).1 (by rw [← HZS.out]; exact List.mem_of_getElem? hid)
      obtain ⟨x, hx⟩ : ∃ x, at? l id = some x := by
        cases ha : at? l id with
        | none => exact absurd hidl (at_none.1 ha)
        | some x => exact ⟨x, rfl⟩
      have hxm := at_mem hx
      have hxp := hG.pos x hxm.1
      have hwf := wf_id (i := id) (by rw [← hxm.2]; omega)
      have HC := Lib.hid (fun u (hu : Below w.heap.size w u) => tclass_c T l id hwf u ((HTR.out.below hu).up hu.size))
      unfold ClassOk at HC
      rw [hx] at HC
      simp only [Option.getD_some, Option.isSome_some] at HC
      unfold clsV at HC
      have hst := HST.out
      have HN0 := Lib.hid (fun (u : World) (h : Below w.heap.size w u) => hst u h id hwf)
      clear hst
      have HNW := Lib.hid (fun u => new_c x (HSH.out x hxm.1) (HR.out.right x hxm.1) now u)
      unfold Cls.agg at HNW
      have HIC := Lib.hid (fun (s : S3) (u : World) => icarry_c s x (HSH.out x hxm.1) (HR.out.right x hxm.1) u)
      unfold Cls.agg S3.agg at HIC
      have HXI := Lib.hid hxm.2
      have HX := Lib.hid hx; have HIDK := Lib.hid hid
      clear hx hid hidl hxm hxp hac hab
      go_upto_region 8 with (first
        | (go_at_call 19; (with_reducible refine (settree_c _ _ _ s0).mono ?_); rintro e w' ⟨rfl, rfl⟩)
        | (go_at_call 63; (with_reducible refine (HC.out _ HW.out).mono ?_); rintro e w3 ⟨rfl, hb3⟩; have HB3 := Lib.hid hb3; clear hb3))
      have hs3 := HB3.out.size
      have hcb := row_new w3 84 x.cells
      have hWc := (HW.out.trans (HB3.out.mono HW.out.size)).alloc (by have := HW.out.size; omega) (.cells #[.int .i64 x.id, .int .i64 x.parent, .float .f64 x.share, .int .i64 x.prio, .int .i64 x.quantum, .int .i64 x.limit, .int .i64 x.weight, .int .i64 x.minIdle, .int .i64 x.maxIdle, .bool x.bounded, .bool x.isolated] 84)
      have hBc := (HB3.out).alloc hs3 (.cells #[.int .i64 x.id, .int .i64 x.parent, .float .f64 x.share, .int .i64 x.prio, .int .i64 x.quantum, .int .i64 x.limit, .int .i64 x.weight, .int .i64 x.minIdle, .int .i64 x.maxIdle, .bool x.bounded, .bool x.isolated] 84)
      have hzc : (w3.alloc (.cells #[.int .i64 x.id, .int .i64 x.parent, .float .f64 x.share, .int .i64 x.prio, .int .i64 x.quantum, .int .i64 x.limit, .int .i64 x.weight, .int .i64 x.minIdle, .int .i64 x.maxIdle, .bool x.bounded, .bool x.isolated] 84)).heap.size = w3.heap.size + 1 := by simp
      unfold Cls.cells at hcb
      generalize World.alloc w3 _ = u at *
      have HCB := Lib.hid hcb; have HWc := Lib.hid hWc; have HBc := Lib.hid hBc
      obtain ⟨cb, hcbd⟩ : ∃ cb, cb = w3.heap.size := ⟨_, rfl⟩
      rw [← hcbd] at HCB hzc ⊢
      have hcbl : w2.heap.size ≤ cb := by omega
      have hcbu : cb < u.heap.size := by omega
      have huw : wr.heap.size ≤ u.heap.size := by omega
      clear hcb hWc hBc hzc hcbd s0 ck HB3 hs3
      obtain ⟨o, ho⟩ : ∃ o, o = old id := ⟨_, rfl⟩
      rw [← ho] at HN0
      have HOO := Lib.hid ho.symm
      clear ho
      cases o with
      | none =>
        have HN := HN0
        simp only [Option.getD_none, Option.isSome_none] at HN
        unfold S3.nil S3.agg at HN
        go_upto_region 9 with (first
          | (go_at_call 24; (with_reducible refine (HN.out _ HWc.out).mono ?_); rintro e w4 ⟨rfl, hb4⟩; have HB4 := Lib.hid hb4; clear hb4))
        have hs4 := HB4.out.size
        have hb5 := (HB4.out).alloc hs4 (.cells #[.int .i64 0, .int .i64 0, .int .i64 0] 46)
        have hz5 : (w4.alloc (.cells #[.int .i64 0, .int .i64 0, .int .i64 0] 46)).heap.size = w4.heap.size + 1 := by simp
        generalize World.alloc w4 _ = v at *
        have HB5 := Lib.hid hb5
        have huv : u.heap.size ≤ v.heap.size := by omega
        have kcb := Lib.hid ((hb5.block cb hcbu).trans HCB.out)
        have hBv := Lib.hid (HBc.out.trans (hb5.mono huw))
        have hgr : v.heap[w.heap.size + 1]? = some (.cells #[.pointer (some ⟨S, 0, none⟩), .map (some w.heap.size)] 122 (0, 0)) := (hBv.out.block (w.heap.size + 1) (by omega)).trans ((HQ.out (w.heap.size + 1) hn2 (by omega)).trans K1.out)
        have hMv := Lib.hid (HM.out.below hBv.out HM.out.lt)
        have hWv := Lib.hid (HW.out.trans (hBv.out.mono HW.out.size))
        have hQv : Hid (∀ q, q < w2.heap.size → q ≠ w.heap.size → v.heap[q]? = w2.heap[q]?) := Lib.hid (fun q hq hne => (hBv.out.block q (by omega)).trans (HQ.out q hq hne))
        have g1 := cells_at hgr 1 (.map (some w.heap.size)) rfl
        have f0 := cells_at kcb.out 0 (.int .i64 x.id) rfl; have f1 := cells_at kcb.out 1 (.int .i64 x.parent) rfl; have f2 := cells_at kcb.out 2 (.float .f64 x.share) rfl; have f3 := cells_at kcb.out 3 (.int .i64 x.prio) rfl; have f4 := cells_at kcb.out 4 (.int .i64 x.quantum) rfl; have f5 := cells_at kcb.out 5 (.int .i64 x.limit) rfl; have f6 := cells_at kcb.out 6 (.int .i64 x.weight) rfl; have f7 := cells_at kcb.out 7 (.int .i64 x.minIdle) rfl; have f8 := cells_at kcb.out 8 (.int .i64 x.maxIdle) rfl; have f9 := cells_at kcb.out 9 (.bool x.bounded) rfl; have f10 := cells_at kcb.out 10 (.bool x.isolated) rfl
        have hsz1 : w.heap.size + 1 < v.heap.size := by omega
        have hsz2 : cb < v.heap.size := by omega
        have hsv : w2.heap.size ≤ v.heap.size := by omega
        clear hs4 hb5 hz5 hgr HB4 HB5 huv huw hcbu HCB HBc
        go_upto_region 11 with fail
        have hSW : ∀ q, (q = w.heap.size + 1 ∨ q = cb) → q < v.heap.size := fun q hq => by rcases hq with e | e <;> omega
        have HSW := Lib.hid hSW
        have HD0 := Lib.hid ((Below.refl v.heap.size v).drew)
        clear hSW
        refine Lx.wp_region_X 8 (fun w' => ∃ z, w' = Lx.kept (fun q => q = w.heap.size + 1 ∨ q = cb) v.drew z) (fun i => i == 7) (by kernel_rfl) (by kernel_rfl) (Lx.kept_of (Lx.Keeps.refl _ _)) ?_
        simp only [List.take_succ_cons, List.take_zero, List.drop_succ_cons, List.drop_zero]
        repeat (refine Lx.wpX_step (fun K hK => ?_); first | (refine Lx.opX_free (by rfl) (by rfl) (by rfl) ?_; go_big_quiet_op; refine hK _ _ ?_; clear hK K) | (refine Lx.opX_nil (by rfl) (by rfl) (by rfl) (by rfl) ?_; refine hK _ _ ?_; clear hK K; simp only [Act.put, List.setIfInBounds_toArray, List.set_cons_succ, List.set_cons_zero]))
        refine Lx.wpX_step (fun K hK => ?_)
        refine Lx.opX_law (by rfl) (by rfl) ?_
        go_wp2_with (go_at_call 91; (with_reducible refine (HNW.out _).mono ?_); rintro e W1 ⟨rfl, hb1⟩; have hbk := HD0.out.trans hb1; have HB1 := Lib.hid hbk; clear hb1 hbk)
        refine Lx.nq_mk (Lx.kept_of (fun g hg => HB1.out.block g (HSW.out g hg))) (hK _ _ ?_)
        clear hK K
        refine Lx.wpX_nil ?_
        have hMw := Lib.hid (hMv.out.below HB1.out hMv.out.lt)
        have hs1 := HB1.out.size
        clear g1 f0 f1 f2 f3 f4 f5 f6 f7 f8 f9 f10
        go_wp2_with (first | (refine wpList_put s3_kind (by rfl) _ _ _ 120 (by rfl) 3 46 Tryz.underlying3 Tryz.underlying120 S3.nil w.heap.size k (stCK l old now k) _ (by rfl) hMw.out (by omega) id (newI x now) (by rfl) (by rfl) hwf ?_; intro w10 hm10 hg10; have HM10 := Lib.hid hm10; have HG10 := Lib.hid hg10; clear hm10 hg10))
        have hs10 := HG10.out.size
        go_roundg (zs.length - (k + 1))
        case measure => omega
        case rel =>
          refine ⟨k + 1, by go_num, by omega, by omega, Lib.hid ?_, Lib.hid (fun q hq hne => (HG10.out.block q (by omega) (fun e => hne (by injection e))).trans ((HB1.out.block q (by omega)).trans (hQv.out q hq hne))), by omega, Lib.hid ((hWv.out.trans (HB1.out.mono hWv.out.size)).grown HG10.out (by have := hWv.out.size; omega) (fun q hq => by injection hq; omega))⟩
          rw [← stCK_put (by rw [← HZS.out]; exact HIDK.out) HX.out, car_none HXI.out HOO.out]
          exact HM10.out
      | some s3 =>
        have HN := HN0
        simp only [Option.getD_some, Option.isSome_some] at HN
        unfold S3.agg at HN
        go_upto_region 9 with (first
          | (go_at_call 24; (with_reducible refine (HN.out _ HWc.out).mono ?_); rintro e w4 ⟨rfl, hb4⟩; have HB4 := Lib.hid hb4; clear hb4))
        have hs4 := HB4.out.size
        have hb5 := (HB4.out).alloc hs4 (.cells #[.int .i64 s3.l, .int .i64 s3.a, .int .i64 s3.u] 46)
        have hz5 : (w4.alloc (.cells #[.int .i64 s3.l, .int .i64 s3.a, .int .i64 s3.u] 46)).heap.size = w4.heap.size + 1 := by simp
        have hnb := heap_alloc_new w4 (.cells #[.int .i64 s3.l, .int .i64 s3.a, .int .i64 s3.u] 46)
        generalize World.alloc w4 _ = v at *
        obtain ⟨pb, hpb⟩ : ∃ pb, pb = w4.heap.size := ⟨_, rfl⟩
        rw [← hpb] at hnb ⊢
        have hpv : pb < v.heap.size := by omega
        have p0 := cells_at hnb 0 (.int .i64 s3.l) rfl; have p1 := cells_at hnb 1 (.int .i64 s3.a) rfl; have p2 := cells_at hnb 2 (.int .i64 s3.u) rfl
        clear hpb hnb
        have HB5 := Lib.hid hb5
        have huv : u.heap.size ≤ v.heap.size := by omega
        have kcb := Lib.hid ((hb5.block cb hcbu).trans HCB.out)
        have hBv := Lib.hid (HBc.out.trans (hb5.mono huw))
        have hgr : v.heap[w.heap.size + 1]? = some (.cells #[.pointer (some ⟨S, 0, none⟩), .map (some w.heap.size)] 122 (0, 0)) := (hBv.out.block (w.heap.size + 1) (by omega)).trans ((HQ.out (w.heap.size + 1) hn2 (by omega)).trans K1.out)
        have hMv := Lib.hid (HM.out.below hBv.out HM.out.lt)
        have hWv := Lib.hid (HW.out.trans (hBv.out.mono HW.out.size))
        have hQv : Hid (∀ q, q < w2.heap.size → q ≠ w.heap.size → v.heap[q]? = w2.heap[q]?) := Lib.hid (fun q hq hne => (hBv.out.block q (by omega)).trans (HQ.out q hq hne))
        have g1 := cells_at hgr 1 (.map (some w.heap.size)) rfl
        have f0 := cells_at kcb.out 0 (.int .i64 x.id) rfl; have f1 := cells_at kcb.out 1 (.int .i64 x.parent) rfl; have f2 := cells_at kcb.out 2 (.float .f64 x.share) rfl; have f3 := cells_at kcb.out 3 (.int .i64 x.prio) rfl; have f4 := cells_at kcb.out 4 (.int .i64 x.quantum) rfl; have f5 := cells_at kcb.out 5 (.int .i64 x.limit) rfl; have f6 := cells_at kcb.out 6 (.int .i64 x.weight) rfl; have f7 := cells_at kcb.out 7 (.int .i64 x.minIdle) rfl; have f8 := cells_at kcb.out 8 (.int .i64 x.maxIdle) rfl; have f9 := cells_at kcb.out 9 (.bool x.bounded) rfl; have f10 := cells_at kcb.out 10 (.bool x.isolated) rfl
        have hsz1 : w.heap.size + 1 < v.heap.size := by omega
        have hsz2 : cb < v.heap.size := by omega
        have hsv : w2.heap.size ≤ v.heap.size := by omega
        clear hs4 hb5 hz5 hgr HB4 HB5 huv huw hcbu HCB HBc
        go_upto_region 10 with fail
        have hSW : ∀ q, (q = w.heap.size + 1 ∨ q = cb ∨ q = pb) → q < v.heap.size := fun q hq => by rcases hq with e | e | e <;> omega
        have HSW := Lib.hid hSW
        have HD0 := Lib.hid ((Below.refl v.heap.size v).drew)
        clear hSW
        refine Lx.wp_region_X 8 (fun w' => ∃ z, w' = Lx.kept (fun q => q = w.heap.size + 1 ∨ q = cb ∨ q = pb) v.drew z) (fun i => i == 7) (by kernel_rfl) (by kernel_rfl) (Lx.kept_of (Lx.Keeps.refl _ _)) ?_
        simp only [List.take_succ_cons, List.take_zero, List.drop_succ_cons, List.drop_zero]
        repeat (refine Lx.wpX_step (fun K hK => ?_); first | (refine Lx.opX_free (by rfl) (by rfl) (by rfl) ?_; go_big_quiet_op; refine hK _ _ ?_; clear hK K) | (refine Lx.opX_nil (by rfl) (by rfl) (by rfl) (by rfl) ?_; refine hK _ _ ?_; clear hK K; simp only [Act.put, List.setIfInBounds_toArray, List.set_cons_succ, List.set_cons_zero]))
        refine Lx.wpX_step (fun K hK => ?_)
        refine Lx.opX_law (by rfl) (by rfl) ?_
        go_wp2_with (go_at_call 90; (with_reducible refine (HIC.out s3 _).mono ?_); rintro e W1 ⟨rfl, hb1⟩; have hbk := HD0.out.trans hb1; have HB1 := Lib.hid hbk; clear hb1 hbk)
        refine Lx.nq_mk (Lx.kept_of (fun g hg => HB1.out.block g (HSW.out g hg))) (hK _ _ ?_)
        clear hK K
        refine Lx.wpX_nil ?_
        have hMw := Lib.hid (hMv.out.below HB1.out hMv.out.lt)
        have hs1 := HB1.out.size
        clear g1 p0 p1 p2 f0 f1 f2 f3 f4 f5 f6 f7 f8 f9 f10
        go_wp2_with (first | (refine wpList_put s3_kind (by rfl) _ _ _ 120 (by rfl) 3 46 Tryz.underlying3 Tryz.underlying120 S3.nil w.heap.size k (stCK l old now k) _ (by rfl) hMw.out (by omega) id (carryI s3 x) (by rfl) (by rfl) hwf ?_; intro w10 hm10 hg10; have HM10 := Lib.hid hm10; have HG10 := Lib.hid hg10; clear hm10 hg10))
        have hs10 := HG10.out.size
        go_roundg (zs.length - (k + 1))
        case measure => omega
        case rel =>
          refine ⟨k + 1, by go_num, by omega, by omega, Lib.hid ?_, Lib.hid (fun q hq hne => (HG10.out.block q (by omega) (fun e => hne (by injection e))).trans ((HB1.out.block q (by omega)).trans (hQv.out q hq hne))), by omega, Lib.hid ((hWv.out.trans (HB1.out.mono hWv.out.size)).grown HG10.out (by have := hWv.out.size; omega) (fun q hq => by injection hq; omega))⟩
          rw [← stCK_put (by rw [← HZS.out]; exact HIDK.out) HX.out, car_some HXI.out HOO.out]
          exact HM10.out
    · have hltz : ¬ (k : Int) < (zs.length : Int) := by omega
      obtain rfl : k = zs.length := by omega
      go_wp2_with fail
      go_ret
      refine ⟨w.heap.size + 1, w.heap.size, rfl, ⟨(HQ.out _ hn2 (by omega)).trans K1.out, ?_⟩, by omega, Nat.le_refl _, by omega, HW.out⟩
      have h1 := HM.out
      rw [HZS.out, stCK_all] at h1
      exact h1.more (by rw [HLEN.out]; exact h64)
end Go.Proofs.YtpchhfhmopmagaaGreat.Rg

/- maps.Clone; gauge.Copy. -/
namespace Go.Proofs.YtpchhfhmopmagaaGreat.Rg
open Go.RowKit Go.Maps Wd Li St Sr Go.Proofs.YtpchhfhmopmagaaGreat.Mp Go.Proofs.YtpchhfhmopmagaaGreat.Cl Go.Proofs.YtpchhfhmopmagaaGreat.So Go.Proofs.YtpchhfhmopmagaaGreat.Tr Go.Proofs.YtpchhfhmopmagaaGreat.Tp Go.Proofs.YtpchhfhmopmagaaGreat.Sw Go.Proofs.YtpchhfhmopmagaaGreat.Id Go.Proofs.YtpchhfhmopmagaaGreat.Ga Go.Proofs.YtpchhfhmopmagaaGreat.Cf Go.Proofs.YtpchhfhmopmagaaGreat.Fi Go.Proofs.YtpchhfhmopmagaaGreat.Qu
attribute [local go_sem] run_store_float Lx.opX Rel.oneOk
attribute [local irreducible] Lx.wpX

theorem eql_map_nil {P : Program} (w : World) (t k e : TypeId) (p : Option Nat) (h : P.underlying t = some (.map k e)) :
    (binOp .eql t (.map p) (.map none)).run P w = .ok (.bool p.isNone) w := by
  have h1 : ∀ d : Nat, (Op.equalIn (d + 1) t (.map p) (.map none)).run P w = .ok p.isNone w := fun d => by
    cases p <;> simp [Op.equalIn, run_underlying h]
  simp only [binOp]
  simp [show Op.equal t (.map p) (.map none) = Op.equalIn (9999 + 1) t (.map p) (.map none) from rfl, h1 9999]
theorem assert_map {P : Program} (w : World) (t xT k e : TypeId) (v : Value) (h : P.underlying t = some (.map k e)) : (Instr.typeAssert (.iface t v) xT t false).run P w = .ok v w := by
  simp [Instr.typeAssert, run_underlying h, go_sem, Result.andThen]
theorem run_clone {P : Program} (w : World) {r : Nat} {es : Array MapEntry} {ck : Nat} (t : TypeId) (hb : w.heap[r]? = some (.map es ck)) :
    (Extern.MapsClone.clone #[.iface t (.map (some r))]).run P w = .ok (.iface t (.map (some w.heap.size))) (w.alloc (.map es ck)) := by
  have e : Extern.MapsClone.clone #[.iface t (.map (some r))] = (getObj r >>= fun o => match o with
      | .map entries clock => (newObj (.map entries clock) >>= fun n => pure (.iface t (.map (some n))))
      | _ => stuck "maps.clone: a map expected") := rfl
  rw [e]
  simp [MapKept.run_getObj_map hb, Result.andThen, go_sem]
set_option maxRecDepth 20000 in
set_option maxHeartbeats 1000000 in
theorem mclone_c (b : Nat) (es : Array MapEntry) (ck : Nat) (w : World) (hb : w.heap[b]? = some (.map es ck)) :
    Calls Tryz.prog 89 #[.map (some b)] w fun e w' => e = .returned (.map (some w.heap.size)) ∧ w' = w.alloc (.map es ck) := by
  have hq := fun w => eql_map_nil (P := Tryz.prog) w 120 _ _ (some b) Tryz.underlying120
  go_enter Tryz.func89, Tryz.ntmps89
  go_wp2
  rw [run_callFunc_extern Tryz.func164 (by kernel_rfl) (by kernel_rfl) (by kernel_rfl) (e := Extern.MapsClone.clone) (by kernel_rfl), run_clone w 120 hb]
  simp only [Result.andThen]
  rw [Oper.upon_value]
  go_wp2
  rw [assert_map _ 120 _ _ _ _ Tryz.underlying120]
  simp only [Result.andThen]
  rw [Oper.upon_value]
  go_wp2
  go_ret
  exact ⟨rfl, rfl⟩
theorem at_dup {w : World} {h n : Nat} {st : Int → Option S3} (m : StM w h n st) : ∃ es ck, w.heap[h]? = some (.map es ck) ∧ ∀ (w' : World) (h' : Nat), w'.heap[h']? = some (.map es ck) → StM w' h' n st := by
  obtain ⟨D, ⟨es, ck, hm, r⟩, hA⟩ := m
  exact ⟨es, ck, hm, fun w' h' hm' => ⟨D, ⟨es, ck, hm', r⟩, hA⟩⟩
def CopyOk (S : Nat) (st : Int → Option S3) (w : World) (e : Ending) (w' : World) : Prop := ∃ g h, e = .returned (.pointer (some ⟨g, 0, none⟩)) ∧ GaugeAt w' g h S st ∧ w.heap.size ≤ g ∧ w.heap.size ≤ h ∧ g ≠ h ∧ Below w.heap.size w w'
set_option maxRecDepth 20000 in
set_option maxHeartbeats 1000000 in
theorem gcopy_c (g h S : Nat) (st : Int → Option S3) (w : World) (hG : GaugeAt w g h S st) :
    Calls Tryz.prog 43 #[.pointer (some ⟨g, 0, none⟩)] w (CopyOk S st w) := by
  obtain ⟨es, ck, hm, hdup⟩ := at_dup hG.map
  have hgl := (Array.getElem?_eq_some_iff.1 hG.cell).1
  have hhl := (Array.getElem?_eq_some_iff.1 hm).1
  have x0 := cells_at hG.cell 0 (.pointer (some ⟨S, 0, none⟩)) rfl
  have x1 := cells_at hG.cell 1 (.map (some h)) rfl
  have HCL := Lib.hid (fun (u : World) (hu : Below w.heap.size w u) => mclone_c h es ck u ((hu.block h hhl).trans hm))
  have HDU := Lib.hid hdup
  have HD := Lib.hid ((Below.refl w.heap.size w).drew)
  have HSB : Hid (∀ q, (q = g) → q < w.heap.size) := Lib.hid (fun q hq => by omega)
  clear hG hm hdup hhl
  go_enter Tryz.func43, Tryz.ntmps43
  go_upto_region 3 with fail
  refine Lx.wp_region_Y 9 (fun w' => ∃ z, w' = Lx.kept (fun q => q = g) w.drew z) [8] (by kernel_rfl) (by kernel_rfl) (Lx.kept_of (Lx.Keeps.refl _ _)) ?_
  simp only [List.take_succ_cons, List.take_zero, List.drop_succ_cons, List.drop_zero]
  repeat (refine Lx.wpX_step (fun K hK => ?_); first | (refine Lx.opX_free (by rfl) (by rfl) (by rfl) ?_; go_big_quiet_op; refine hK _ _ ?_; clear hK K) | (refine Lx.opX_nil (by rfl) (by rfl) (by rfl) (by rfl) ?_; refine hK _ _ ?_; clear hK K; simp only [Act.put, List.setIfInBounds_toArray, List.set_cons_succ, List.set_cons_zero]) | (refine Lx.opX_skip (by rfl) ?_; refine hK _ _ ?_; clear hK K; simp only [Act.put, List.setIfInBounds_toArray, List.set_cons_succ, List.set_cons_zero]))
  refine Lx.wpX_step (fun K hK => ?_)
  refine Lx.opX_law (by rfl) (by rfl) ?_
  go_wp2_with (go_at_call 89; refine (HCL.out _ HD.out).mono ?_; rintro e v ⟨rfl, hv⟩; have hbk : Below w.heap.size w v := (by rw [hv]; exact HD.out.alloc HD.out.size _); have hmn : v.heap[w.heap.size]? = some (.map es ck) := (by rw [hv]; exact heap_alloc_new w.drew _); have HB := Lib.hid hbk; have HMN := Lib.hid hmn; clear hbk hmn hv)
  refine Lx.nq_mk (Lx.kept_of (fun y hy => HB.out.block y (HSB.out y hy))) (hK _ _ ?_)
  clear hK K
  repeat (refine Lx.wpX_step (fun K hK => ?_); first | (refine Lx.opX_free (by rfl) (by rfl) (by rfl) ?_; go_big_quiet_op; refine hK _ _ ?_; clear hK K) | (refine Lx.opX_nil (by rfl) (by rfl) (by rfl) (by rfl) ?_; refine hK _ _ ?_; clear hK K; simp only [Act.put, List.setIfInBounds_toArray, List.set_cons_succ, List.set_cons_zero]) | (refine Lx.opX_skip (by rfl) ?_; refine hK _ _ ?_; clear hK K; simp only [Act.put, List.setIfInBounds_toArray, List.set_cons_succ, List.set_cons_zero]))
  refine Lx.wpX_nil ?_
  clear x0 x1
  go_wp2_with fail
  go_ret
  have hvs := HB.out.size
  have hlt : w.heap.size < v.heap.size := (Array.getElem?_eq_some_iff.1 HMN.out).1
  exact ⟨v.heap.size, w.heap.size, rfl, ⟨heap_alloc_new v _, HDU.out _ _ ((Below.heap_alloc v _ _ hlt).trans HMN.out)⟩, hvs, Nat.le_refl _, by omega, HB.out.alloc hvs _⟩
end Go.Proofs.YtpchhfhmopmagaaGreat.Rg

/- The document's gauges: Carry of rows. -/
namespace Go.Proofs.YtpchhfhmopmagaaGreat.Rg
open Go.RowKit Go.Maps Wd Li St Sr Go.Proofs.YtpchhfhmopmagaaGreat.Mp Go.Proofs.YtpchhfhmopmagaaGreat.Cl Go.Proofs.YtpchhfhmopmagaaGreat.So Go.Proofs.YtpchhfhmopmagaaGreat.Tr Go.Proofs.YtpchhfhmopmagaaGreat.Tp Go.Proofs.YtpchhfhmopmagaaGreat.Sw Go.Proofs.YtpchhfhmopmagaaGreat.Id Go.Proofs.YtpchhfhmopmagaaGreat.Ga Go.Proofs.YtpchhfhmopmagaaGreat.Cf Go.Proofs.YtpchhfhmopmagaaGreat.Fi
attribute [local go_sem] run_store_float Lx.opX Rel.oneOk
attribute [local irreducible] Lx.wpX

set_option maxRecDepth 20000 in
set_option maxHeartbeats 4000000 in
theorem refcarry_c (zs : List G) (hz : zs.length ≤ 1024) (Z : Option Addr) (zn zc : Nat) (tpb rule dfl : Int) (A : Option Addr) (na ca : Nat) (Ba : Option Addr) (Bn Bc : Nat) (l : List Cls) (hr : ∀ c ∈ l, rightS c = 0) (hs : ∀ c ∈ l, c.share < 18446744073709551616) (hlen : l.length ≤ 70) (now : Int) (w : World) (hI : Holds w.heap.size w (.slice A na ca) l) (hZ : HoldsG w.heap.size w (.slice Z zn zc) zs) :
    Calls Tryz.prog 45 #[.slice Z zn zc, .agg #[.int .i64 tpb, .int .i64 rule, .int .i64 dfl, .slice A na ca, .slice Ba Bn Bc], .int .i64 now] w (RowsOk (rowsC l (ofG zs) now l.length) w) := by
  obtain ⟨i0, hi, hz0, hz1, hz2⟩ := info_parts row_info
  have hB0 := (Below.refl w.heap.size w).alloc (Nat.le_refl _) (.cells #[.int .i64 tpb, .int .i64 rule, .int .i64 dfl, .slice A na ca, .slice Ba Bn Bc] 25)
  have HB0 := Lib.hid hB0
  have HOF0 := Lib.hid (fun (u : World) (h : Below w.heap.size w u) (id : Int) => refof_c Z zn zc zs (by omega) id u (Lies.up h.size (Lies.below h hZ)))
  unfold RStateOk at HOF0
  have hh := heap_alloc_new w (.cells #[.int .i64 tpb, .int .i64 rule, .int .i64 dfl, .slice A na ca, .slice Ba Bn Bc] 25)
  have HH := Lib.hid hh
  have HI := Lib.hid ((hI.below hB0).up hB0.size)
  have HSL := Lib.hid (sortC_len l)
  have HR := Lib.hid hr; have HS := Lib.hid hs
  clear hB0 hh hI hr hs hZ
  obtain ⟨old, hold_⟩ : ∃ old, old = ofG zs := ⟨_, rfl⟩
  have HOLD := Lib.hid hold_
  rw [← hold_] at HOF0
  clear hold_
  go_enter Tryz.func45, Tryz.ntmps45
  go_upto_region 1 with fail
  generalize World.alloc w _ = U at *
  have x3 := cells_at HH.out 3 (.slice A na ca) rfl
  have HSO := Lib.hid (refsort_c A na ca l (by omega) U HI.out)
  go_wp2_with (go_at_call 68; (with_reducible refine (HSO.out).mono ?_); rintro e w1 ⟨A1, c1, rfl, hcs, hb1⟩; have HCS := Lib.hid hcs; have HB1 := Lib.hid hb1; clear hcs hb1)
  have hws := HB1.out.size
  have HW1 := Lib.hid (HB0.out.trans (HB1.out.mono HB0.out.size))
  clear x3 HSO HI HH
  go_loopg [7, 9] l.length (fun kx s7 s9 wr => ∃ (k : Nat) (B9 : Option Addr) (c9 : Nat), s9 = .int .i64 k ∧ s7 = .slice B9 (rowsC l old now k).length c9 ∧ k ≤ l.length ∧ l.length - k ≤ kx ∧ Hid (wr.ownsRow w1.heap.size 140 4 s7 (rowsC l old now k).length ((rowsC l old now k).flatMap G.cells)) ∧ Hid (Below w1.heap.size w1 wr))
  case atStart => exact ⟨0, none, 0, rfl, rfl, by omega, by omega, Lib.hid (World.ownsRow_nil ..), Lib.hid (Below.refl _ _)⟩
  case round =>
    obtain ⟨k, B9, c9, rfl, rfl, hk, hkx, HO, HW⟩ := hrel
    have hwz := HW.out.size
    by_cases hlt : k < l.length
    · have hltz : (k : Int) < (l.length : Int) := by omega
      obtain ⟨b, off, rfl, hb, hc⟩ := HCS.out (by omega)
      obtain ⟨x, hx⟩ : ∃ x, (sortC l)[k]? = some x := ⟨_, List.getElem?_eq_getElem (by rw [HSL.out]; exact hlt)⟩
      have hcx : ∀ (i : Nat) (v : Value), x.cells[i]? = some v → wr.cell? ⟨b, off + k * 11 + i, none⟩ = some v := fun i v hv => (HW.out.cell (p := ⟨b, off + k * 11 + i, none⟩) hb).trans (hc k x hx i v hv)
      have c0 : wr.cell? ⟨b, off + k * 11, none⟩ = some (.int .i64 x.id) := hcx 0 _ rfl
      have HCX := Lib.hid hcx
      have hxl := sort_at hx
      have HT := Lib.hid (rowsC_succ (old := old) (now := now) hx)
      have hol := rowsC_len l old now k
      have HNW := Lib.hid (fun u => refnew_c x (HS.out x hxl) (HR.out x hxl) now u)
      unfold Cls.agg newI S3.agg at HNW
      have hof0 := HOF0.out
      have HOF1 := Lib.hid (fun (u : World) (h : Below w.heap.size w u) => hof0 u h x.id)
      have HIC := Lib.hid (fun (s3 : S3) (u : World) => refcarryI_c s3 x (HS.out x hxl) (HR.out x hxl) u)
      unfold Cls.agg carryI S3.agg at HIC
      dsimp only at HIC
      clear hof0
      have HWW := Lib.hid (HW1.out.trans (HW.out.mono HW1.out.size))
      clear hc hx hcx hxl
      generalize hos : rowsC l old now k = os at *
      clear hos
      obtain ⟨o, ho⟩ : ∃ o, o = old x.id := ⟨_, rfl⟩
      rw [← ho] at HOF1
      have HOO := Lib.hid ho.symm
      clear ho
      cases o with
      | none =>
        have HOF := HOF1
        simp only [Option.getD_none, Option.isSome_none] at HOF
        unfold S3.nil S3.agg at HOF
        have HTN := Lib.hid (by rw [HT.out, car_none rfl HOO.out] : rowsC l old now (k + 1) = os ++ [⟨x.id, newI x now⟩])
        go_upto_region 7 with (go_at_call 92; (with_reducible refine (HOF.out _ HWW.out).mono ?_); rintro e w2 ⟨rfl, hb2⟩; have HB2 := Lib.hid hb2; clear hb2)
        have hw2 := HB2.out.size
        have hb3 := (HB2.out).alloc hw2 (.cells #[.int .i64 0, .int .i64 0, .int .i64 0] 138)
        have hz3 : (w2.alloc (.cells #[.int .i64 0, .int .i64 0, .int .i64 0] 138)).heap.size = w2.heap.size + 1 := by simp
        generalize World.alloc w2 _ = v at *
        have hvs : wr.heap.size ≤ v.heap.size := by omega
        have HBv := Lib.hid hb3
        have hbv : b < v.heap.size := by omega
        have kk : ∀ (i : Nat) (u : Value), x.cells[i]? = some u → v.cell? ⟨b, off + k * 11 + i, none⟩ = some u := fun i u hu => (hb3.cell (p := ⟨b, off + k * 11 + i, none⟩) (by show b < wr.heap.size; omega)).trans (HCX.out i u hu)
        have f0 : v.cell? ⟨b, off + k * 11, none⟩ = some (.int .i64 x.id) := kk 0 _ rfl
        have f1 : v.cell? ⟨b, off + k * 11 + 1, none⟩ = some (.int .i64 x.parent) := kk 1 _ rfl
        have f2 : v.cell? ⟨b, off + k * 11 + 2, none⟩ = some (.float .f64 x.share) := kk 2 _ rfl
        have f3 : v.cell? ⟨b, off + k * 11 + 3, none⟩ = some (.int .i64 x.prio) := kk 3 _ rfl
        have f4 : v.cell? ⟨b, off + k * 11 + 4, none⟩ = some (.int .i64 x.quantum) := kk 4 _ rfl
        have f5 : v.cell? ⟨b, off + k * 11 + 5, none⟩ = some (.int .i64 x.limit) := kk 5 _ rfl
        have f6 : v.cell? ⟨b, off + k * 11 + 6, none⟩ = some (.int .i64 x.weight) := kk 6 _ rfl
        have f7 : v.cell? ⟨b, off + k * 11 + 7, none⟩ = some (.int .i64 x.minIdle) := kk 7 _ rfl
        have f8 : v.cell? ⟨b, off + k * 11 + 8, none⟩ = some (.int .i64 x.maxIdle) := kk 8 _ rfl
        have f9 : v.cell? ⟨b, off + k * 11 + 9, none⟩ = some (.bool x.bounded) := kk 9 _ rfl
        have f10 : v.cell? ⟨b, off + k * 11 + 10, none⟩ = some (.bool x.isolated) := kk 10 _ rfl
        clear hb3 hz3 hw2 HB2 c0 kk
        have HD := Lib.hid ((Below.refl v.heap.size v).drew)
        have HA := Lib.hid (((Below.refl v.heap.size v).alloc (Nat.le_refl _) (.cells #[.int .i64 0, .int .i64 0, .int .i64 0, .int .i64 0] 140)).drew)
        have HN : Hid (((v.alloc (.cells #[.int .i64 0, .int .i64 0, .int .i64 0, .int .i64 0] 140)).drew).heap[v.heap.size]? = some (.cells #[.int .i64 0, .int .i64 0, .int .i64 0, .int .i64 0] 140 (0, 0))) := Lib.hid (heap_alloc_new v _)
        go_region_held3 (fun w' => w'.cell? ⟨b, off + k * 11, none⟩ = some (.int .i64 x.id) ∧ w'.cell? ⟨b, off + k * 11 + 1, none⟩ = some (.int .i64 x.parent) ∧ w'.cell? ⟨b, off + k * 11 + 2, none⟩ = some (.float .f64 x.share) ∧ w'.cell? ⟨b, off + k * 11 + 3, none⟩ = some (.int .i64 x.prio) ∧ w'.cell? ⟨b, off + k * 11 + 4, none⟩ = some (.int .i64 x.quantum) ∧ w'.cell? ⟨b, off + k * 11 + 5, none⟩ = some (.int .i64 x.limit) ∧ w'.cell? ⟨b, off + k * 11 + 6, none⟩ = some (.int .i64 x.weight) ∧ w'.cell? ⟨b, off + k * 11 + 7, none⟩ = some (.int .i64 x.minIdle) ∧ w'.cell? ⟨b, off + k * 11 + 8, none⟩ = some (.int .i64 x.maxIdle) ∧ w'.cell? ⟨b, off + k * 11 + 9, none⟩ = some (.bool x.bounded) ∧ w'.cell? ⟨b, off + k * 11 + 10, none⟩ = some (.bool x.isolated)) (first | (refine ⟨?_, ?_, ?_, ?_, ?_, ?_, ?_, ?_, ?_, ?_, ?_⟩ <;> (refine (Below.cell (w := v) (B := v.heap.size) ?hb ?hp).trans (by assumption); (case hp => exact hbv); (case hb => (repeat' (first | assumption | exact Below.refl _ _ | refine Below.drew ?_ | refine Below.alloc ?_ ?_ _ | refine Below.setCell ?_ ?_ _ | omega | (simp; done) | (simp; omega)))))) | (all_goals (refine (Below.cell (w := v) (B := v.heap.size) ?hb ?hp).trans (by assumption); (case hp => exact hbv); (case hb => (repeat' (first | assumption | exact Below.refl _ _ | refine Below.drew ?_ | refine Below.alloc ?_ ?_ _ | refine Below.setCell ?_ ?_ _ | omega | (simp; done) | (simp; omega))))))) (first
          | (go_at_call 93; (with_reducible refine (HNW.out _).mono ?_); rintro e w3 ⟨rfl, hb4⟩; first | (have hbK := HD.out.trans (hb4.mono HD.out.size); have hbKs := hbK.size) | (have hbK := HA.out.trans (hb4.mono HA.out.size); have hbKs := hbK.size; have hrow := (hb4.block v.heap.size (by simp)).trans HN.out; have r0 := cells_at hrow 0 (.int .i64 0) rfl; have r1 := cells_at hrow 1 (.int .i64 0) rfl; have r2 := cells_at hrow 2 (.int .i64 0) rfl; have r3 := cells_at hrow 3 (.int .i64 0) rfl; have z0 := frozen_at' hrow 0; have z1 := frozen_at' hrow 1; have z2 := frozen_at' hrow 2; have z3 := frozen_at' hrow 3)))
        all_goals
          clear f0 f1 f2 f3 f4 f5 f6 f7 f8 f9 f10 HCX HNW HOF HN HA HD
          first
            | (have hr4 := heap_alloc_new w3 (.cells #[.int .i64 x.id, .int .i64 (hold now), .int .i64 x.maxIdle, .int .i64 0] 140)
               have hb5 := hbK.alloc hbKs (.cells #[.int .i64 x.id, .int .i64 (hold now), .int .i64 x.maxIdle, .int .i64 0] 140)
               generalize World.alloc w3 _ = u4 at *
               obtain ⟨gr, hgr⟩ : ∃ gr, gr = w3.heap.size := ⟨_, rfl⟩
               rw [← hgr] at hr4 ⊢
               clear hgr)
            | (have hr1 := Cf.set_cells hrow 0 (.int .i64 x.id)
               have hr2 := Cf.set_cells hr1 1 (.int .i64 (hold now))
               have hr3 := Cf.set_cells hr2 2 (.int .i64 x.maxIdle)
               have hr4 := Cf.set_cells hr3 3 (.int .i64 0)
               have hb5 : Below v.heap.size v ((((w3.setCell ⟨v.heap.size, 0, none⟩ (.int .i64 x.id)).setCell ⟨v.heap.size, 1, none⟩ (.int .i64 (hold now))).setCell ⟨v.heap.size, 2, none⟩ (.int .i64 x.maxIdle)).setCell ⟨v.heap.size, 3, none⟩ (.int .i64 0)) := by (repeat' (first | assumption | exact Nat.le_refl _ | refine Below.setCell ?_ ?_ _))
               simp only [List.setIfInBounds_toArray, List.set_cons_succ, List.set_cons_zero] at hr4
               clear hr1 hr2 hr3 r0 r1 r2 r3 z0 z1 z2 z3 hrow
               generalize World.setCell _ _ _ = u4 at *
               obtain ⟨gr, hgr⟩ : ∃ gr, gr = v.heap.size := ⟨_, rfl⟩
               rw [← hgr] at hr4 ⊢
               clear hgr)
          have hu4 := hb5.size
          have HB5 := Lib.hid (HBv.out.trans (hb5.mono HBv.out.size))
          have hw4 := HB5.out.size
          have HW5 := Lib.hid (HW.out.trans (HB5.out.mono hwz))
          have HO5 := Lib.hid (own_same (w' := u4) HO.out (fun q hq => HB5.out.block q (HO.out.lt q hq).2))
          have r0 := cells_at hr4 0 (.int .i64 x.id) rfl; have r1 := cells_at hr4 1 (.int .i64 (hold now)) rfl; have r2 := cells_at hr4 2 (.int .i64 x.maxIdle) rfl; have r3 := cells_at hr4 3 (.int .i64 0) rfl
          have HO6 := Lib.hid (HO5.out.alloc (.cells #[.int .i64 x.id, .int .i64 (hold now), .int .i64 x.maxIdle, .int .i64 0] 140))
          have HN6 := Lib.hid (news_row (w := u4.alloc (.cells #[.int .i64 x.id, .int .i64 (hold now), .int .i64 x.maxIdle, .int .i64 0] 140)) (g := u4.heap.size) (y := ⟨x.id, newI x now⟩) (heap_alloc_new u4 (.cells #[.int .i64 x.id, .int .i64 (hold now), .int .i64 x.maxIdle, .int .i64 0] 140)))
          have HB6 := Lib.hid (HW5.out.alloc HW5.out.size (.cells #[.int .i64 x.id, .int .i64 (hold now), .int .i64 x.maxIdle, .int .i64 0] 140))
          have HFL := Lib.hid (show os.flatMap G.cells ++ (⟨x.id, newI x now⟩ : G).cells = (os ++ [(⟨x.id, newI x now⟩ : G)]).flatMap G.cells by simp)
          have HLE := Lib.hid (show os.length + 1 = (os ++ [(⟨x.id, newI x now⟩ : G)]).length by simp)
          clear hbK hbKs hb5 hr4 HBv HB5 HO HO5 HW
          go_upto_region 10 with fail
          go_wp2_with ((at_builtin; go_must (refine Li.wpList_cats (by rfl) _ _ 52 (by rfl) w1.heap.size 140 i0 _ 4 32 Tryz.underlying52 hi hz0 hz1 hz2 rfl (by decide) (by decide) _ _ os.length _ HO6.out (by rfl) _ 1 _ (by rfl) HN6.out (by exact g_one _) (by omega) (by decide) HB6.out.size _ _ HLE.out HFL.out ?_); intro A7 c7 w7 hown7 hb7; have HO7 := Lib.hid hown7; have HB7 := Lib.hid (HB6.out.trans hb7); clear hown7 hb7))
          go_roundg (l.length - (k + 1))
          case measure => omega
          case rel =>
            have HO8 := HO7
            rw [← HLE.out] at HO8
            exact ⟨k + 1, A7, c7, by go_num, by rw [HTN.out, ← HLE.out], by omega, by omega, by rw [HTN.out, ← HLE.out]; exact HO8, HB7⟩
      | some s3 =>
        have HOF := HOF1
        simp only [Option.getD_some, Option.isSome_some] at HOF
        unfold S3.agg at HOF
        have HTN := Lib.hid (by rw [HT.out, car_some rfl HOO.out] : rowsC l old now (k + 1) = os ++ [⟨x.id, carryI s3 x⟩])
        go_upto_region 7 with (go_at_call 92; (with_reducible refine (HOF.out _ HWW.out).mono ?_); rintro e w2 ⟨rfl, hb2⟩; have HB2 := Lib.hid hb2; clear hb2)
        have hw2 := HB2.out.size
        have hb3 := (HB2.out).alloc hw2 (.cells #[.int .i64 s3.l, .int .i64 s3.a, .int .i64 s3.u] 138)
        have hz3 : (w2.alloc (.cells #[.int .i64 s3.l, .int .i64 s3.a, .int .i64 s3.u] 138)).heap.size = w2.heap.size + 1 := by simp
        have hnb := heap_alloc_new w2 (.cells #[.int .i64 s3.l, .int .i64 s3.a, .int .i64 s3.u] 138)
        generalize World.alloc w2 _ = v at *
        obtain ⟨pb, hpb⟩ : ∃ pb, pb = w2.heap.size := ⟨_, rfl⟩
        rw [← hpb] at hnb ⊢
        have hpv : pb < v.heap.size := by omega
        have HPB := Lib.hid hnb
        clear hpb hnb
        have hvs : wr.heap.size ≤ v.heap.size := by omega
        have HBv := Lib.hid hb3
        have hbv : b < v.heap.size := by omega
        have kk : ∀ (i : Nat) (u : Value), x.cells[i]? = some u → v.cell? ⟨b, off + k * 11 + i, none⟩ = some u := fun i u hu => (hb3.cell (p := ⟨b, off + k * 11 + i, none⟩) (by show b < wr.heap.size; omega)).trans (HCX.out i u hu)
        have f0 : v.cell? ⟨b, off + k * 11, none⟩ = some (.int .i64 x.id) := kk 0 _ rfl
        have f1 : v.cell? ⟨b, off + k * 11 + 1, none⟩ = some (.int .i64 x.parent) := kk 1 _ rfl
        have f2 : v.cell? ⟨b, off + k * 11 + 2, none⟩ = some (.float .f64 x.share) := kk 2 _ rfl
        have f3 : v.cell? ⟨b, off + k * 11 + 3, none⟩ = some (.int .i64 x.prio) := kk 3 _ rfl
        have f4 : v.cell? ⟨b, off + k * 11 + 4, none⟩ = some (.int .i64 x.quantum) := kk 4 _ rfl
        have f5 : v.cell? ⟨b, off + k * 11 + 5, none⟩ = some (.int .i64 x.limit) := kk 5 _ rfl
        have f6 : v.cell? ⟨b, off + k * 11 + 6, none⟩ = some (.int .i64 x.weight) := kk 6 _ rfl
        have f7 : v.cell? ⟨b, off + k * 11 + 7, none⟩ = some (.int .i64 x.minIdle) := kk 7 _ rfl
        have f8 : v.cell? ⟨b, off + k * 11 + 8, none⟩ = some (.int .i64 x.maxIdle) := kk 8 _ rfl
        have f9 : v.cell? ⟨b, off + k * 11 + 9, none⟩ = some (.bool x.bounded) := kk 9 _ rfl
        have f10 : v.cell? ⟨b, off + k * 11 + 10, none⟩ = some (.bool x.isolated) := kk 10 _ rfl
        have KK := Lib.hid kk
        clear hb3 hz3 hw2 HB2 c0 kk
        have HD := Lib.hid ((Below.refl v.heap.size v).drew)
        have HA := Lib.hid (((Below.refl v.heap.size v).alloc (Nat.le_refl _) (.cells #[.int .i64 0, .int .i64 0, .int .i64 0, .int .i64 0] 140)).drew)
        have HN : Hid (((v.alloc (.cells #[.int .i64 0, .int .i64 0, .int .i64 0, .int .i64 0] 140)).drew).heap[v.heap.size]? = some (.cells #[.int .i64 0, .int .i64 0, .int .i64 0, .int .i64 0] 140 (0, 0))) := Lib.hid (heap_alloc_new v _)
        go_region_held3 (fun w' => w'.cell? ⟨b, off + k * 11, none⟩ = some (.int .i64 x.id) ∧ w'.cell? ⟨b, off + k * 11 + 1, none⟩ = some (.int .i64 x.parent) ∧ w'.cell? ⟨b, off + k * 11 + 2, none⟩ = some (.float .f64 x.share) ∧ w'.cell? ⟨b, off + k * 11 + 3, none⟩ = some (.int .i64 x.prio) ∧ w'.cell? ⟨b, off + k * 11 + 4, none⟩ = some (.int .i64 x.quantum) ∧ w'.cell? ⟨b, off + k * 11 + 5, none⟩ = some (.int .i64 x.limit) ∧ w'.cell? ⟨b, off + k * 11 + 6, none⟩ = some (.int .i64 x.weight) ∧ w'.cell? ⟨b, off + k * 11 + 7, none⟩ = some (.int .i64 x.minIdle) ∧ w'.cell? ⟨b, off + k * 11 + 8, none⟩ = some (.int .i64 x.maxIdle) ∧ w'.cell? ⟨b, off + k * 11 + 9, none⟩ = some (.bool x.bounded) ∧ w'.cell? ⟨b, off + k * 11 + 10, none⟩ = some (.bool x.isolated)) (first | (refine ⟨?_, ?_, ?_, ?_, ?_, ?_, ?_, ?_, ?_, ?_, ?_⟩ <;> (refine (Below.cell (w := v) (B := v.heap.size) ?hb ?hp).trans (by assumption); (case hp => exact hbv); (case hb => (repeat' (first | assumption | exact Below.refl _ _ | refine Below.drew ?_ | refine Below.alloc ?_ ?_ _ | refine Below.setCell ?_ ?_ _ | omega | (simp; done) | (simp; omega)))))) | (all_goals (refine (Below.cell (w := v) (B := v.heap.size) ?hb ?hp).trans (by assumption); (case hp => exact hbv); (case hb => (repeat' (first | assumption | exact Below.refl _ _ | refine Below.drew ?_ | refine Below.alloc ?_ ?_ _ | refine Below.setCell ?_ ?_ _ | omega | (simp; done) | (simp; omega))))))) (first
          | (go_at_call 93; (with_reducible refine (HNW.out _).mono ?_); rintro e w3 ⟨rfl, hb4⟩; first | (have hbK := HD.out.trans (hb4.mono HD.out.size); have hbKs := hbK.size) | (have hbK := HA.out.trans (hb4.mono HA.out.size); have hbKs := hbK.size; have hrow := (hb4.block v.heap.size (by simp)).trans HN.out; have r0 := cells_at hrow 0 (.int .i64 0) rfl; have r1 := cells_at hrow 1 (.int .i64 0) rfl; have r2 := cells_at hrow 2 (.int .i64 0) rfl; have r3 := cells_at hrow 3 (.int .i64 0) rfl; have z0 := frozen_at' hrow 0; have z1 := frozen_at' hrow 1; have z2 := frozen_at' hrow 2; have z3 := frozen_at' hrow 3)))
        all_goals
          clear f0 f1 f2 f3 f4 f5 f6 f7 f8 f9 f10 HCX HNW HOF HN HA HD
          first
            | (have hr4 := heap_alloc_new w3 (.cells #[.int .i64 x.id, .int .i64 (hold now), .int .i64 x.maxIdle, .int .i64 0] 140)
               have hb5 := hbK.alloc hbKs (.cells #[.int .i64 x.id, .int .i64 (hold now), .int .i64 x.maxIdle, .int .i64 0] 140)
               generalize World.alloc w3 _ = u4 at *
               obtain ⟨gr, hgr⟩ : ∃ gr, gr = w3.heap.size := ⟨_, rfl⟩
               rw [← hgr] at hr4 ⊢
               have hgv : v.heap.size ≤ gr := by omega
               clear hgr)
            | (have hr1 := Cf.set_cells hrow 0 (.int .i64 x.id)
               have hr2 := Cf.set_cells hr1 1 (.int .i64 (hold now))
               have hr3 := Cf.set_cells hr2 2 (.int .i64 x.maxIdle)
               have hr4 := Cf.set_cells hr3 3 (.int .i64 0)
               have hb5 : Below v.heap.size v ((((w3.setCell ⟨v.heap.size, 0, none⟩ (.int .i64 x.id)).setCell ⟨v.heap.size, 1, none⟩ (.int .i64 (hold now))).setCell ⟨v.heap.size, 2, none⟩ (.int .i64 x.maxIdle)).setCell ⟨v.heap.size, 3, none⟩ (.int .i64 0)) := by (repeat' (first | assumption | exact Nat.le_refl _ | refine Below.setCell ?_ ?_ _))
               simp only [List.setIfInBounds_toArray, List.set_cons_succ, List.set_cons_zero] at hr4
               clear hr1 hr2 hr3 r0 r1 r2 r3 z0 z1 z2 z3 hrow
               generalize World.setCell _ _ _ = u4 at *
               obtain ⟨gr, hgr⟩ : ∃ gr, gr = v.heap.size := ⟨_, rfl⟩
               rw [← hgr] at hr4 ⊢
               have hgv : v.heap.size ≤ gr := by omega
               clear hgr)
          have hu4s := hb5.size
          have hgl := (Array.getElem?_eq_some_iff.1 hr4).1
          have hbu : b < u4.heap.size := by omega
          have hpu : pb < u4.heap.size := by omega
          have HSB : Hid (∀ q, (q = b ∨ q = pb) → q < u4.heap.size) := Lib.hid (fun q hq => by rcases hq with e | e <;> omega)
          have hpk := (hb5.block pb hpv).trans HPB.out
          have p0 := cells_at hpk 0 (.int .i64 s3.l) rfl; have p1 := cells_at hpk 1 (.int .i64 s3.a) rfl; have p2 := cells_at hpk 2 (.int .i64 s3.u) rfl
          have jj : ∀ (i : Nat) (u : Value), x.cells[i]? = some u → u4.cell? ⟨b, off + k * 11 + i, none⟩ = some u := fun i u hu => (hb5.cell (p := ⟨b, off + k * 11 + i, none⟩) hbv).trans (KK.out i u hu)
          have j0 : u4.cell? ⟨b, off + k * 11, none⟩ = some (.int .i64 x.id) := jj 0 _ rfl
          have j1 : u4.cell? ⟨b, off + k * 11 + 1, none⟩ = some (.int .i64 x.parent) := jj 1 _ rfl
          have j2 : u4.cell? ⟨b, off + k * 11 + 2, none⟩ = some (.float .f64 x.share) := jj 2 _ rfl
          have j3 : u4.cell? ⟨b, off + k * 11 + 3, none⟩ = some (.int .i64 x.prio) := jj 3 _ rfl
          have j4 : u4.cell? ⟨b, off + k * 11 + 4, none⟩ = some (.int .i64 x.quantum) := jj 4 _ rfl
          have j5 : u4.cell? ⟨b, off + k * 11 + 5, none⟩ = some (.int .i64 x.limit) := jj 5 _ rfl
          have j6 : u4.cell? ⟨b, off + k * 11 + 6, none⟩ = some (.int .i64 x.weight) := jj 6 _ rfl
          have j7 : u4.cell? ⟨b, off + k * 11 + 7, none⟩ = some (.int .i64 x.minIdle) := jj 7 _ rfl
          have j8 : u4.cell? ⟨b, off + k * 11 + 8, none⟩ = some (.int .i64 x.maxIdle) := jj 8 _ rfl
          have j9 : u4.cell? ⟨b, off + k * 11 + 9, none⟩ = some (.bool x.bounded) := jj 9 _ rfl
          have j10 : u4.cell? ⟨b, off + k * 11 + 10, none⟩ = some (.bool x.isolated) := jj 10 _ rfl
          have HD4 := Lib.hid ((Below.refl u4.heap.size u4).drew)
          have HR4 := Lib.hid hr4
          have HB45 := Lib.hid hb5
          clear jj hpk hr4 hb5
          go_upto_region 9 with fail
          refine Lx.wp_region_Y 7 (fun w' => ∃ z, w' = Lx.kept (fun q => q = b ∨ q = pb) u4.drew z) [5] (by kernel_rfl) (by kernel_rfl) (Lx.kept_of (Lx.Keeps.refl _ _)) ?_
          simp only [List.take_succ_cons, List.take_zero, List.drop_succ_cons, List.drop_zero]
          repeat (refine Lx.wpX_step (fun K hK => ?_); first | (refine Lx.opX_free (by rfl) (by rfl) (by rfl) ?_; go_big_quiet_op; refine hK _ _ ?_; clear hK K) | (refine Lx.opX_nil (by rfl) (by rfl) (by rfl) (by rfl) ?_; refine hK _ _ ?_; clear hK K; simp only [Act.put, List.setIfInBounds_toArray, List.set_cons_succ, List.set_cons_zero]) | (refine Lx.opX_skip (by rfl) ?_; refine hK _ _ ?_; clear hK K; simp only [Act.put, List.setIfInBounds_toArray, List.set_cons_succ, List.set_cons_zero]))
          refine Lx.wpX_step (fun K hK => ?_)
          refine Lx.opX_law (by rfl) (by rfl) ?_
          go_wp2_with (go_at_call 94; (with_reducible refine (HIC.out s3 _).mono ?_); rintro e u5 ⟨rfl, hb6⟩; have hbk := HD4.out.trans (hb6.mono HD4.out.size); have HB56 := Lib.hid hbk; clear hb6 hbk)
          refine Lx.nq_mk (Lx.kept_of (fun y hy => HB56.out.block y (HSB.out y hy))) (hK _ _ ?_)
          clear hK K
          repeat (refine Lx.wpX_step (fun K hK => ?_); first | (refine Lx.opX_free (by rfl) (by rfl) (by rfl) ?_; go_big_quiet_op; refine hK _ _ ?_; clear hK K) | (refine Lx.opX_nil (by rfl) (by rfl) (by rfl) (by rfl) ?_; refine hK _ _ ?_; clear hK K; simp only [Act.put, List.setIfInBounds_toArray, List.set_cons_succ, List.set_cons_zero]) | (refine Lx.opX_skip (by rfl) ?_; refine hK _ _ ?_; clear hK K; simp only [Act.put, List.setIfInBounds_toArray, List.set_cons_succ, List.set_cons_zero]))
          refine Lx.wpX_nil ?_
          have k4 := (HB56.out.block gr hgl).trans HR4.out
          have t1 := Cf.set_cells k4 1 (.int .i64 s3.l)
          have t2 := Cf.set_cells t1 2 (.int .i64 (heldI s3.a x))
          have hr4 := Cf.set_cells t2 3 (.int .i64 s3.u)
          have hb5 := (((HB45.out.trans (HB56.out.mono HB45.out.size)).setCell (p := ⟨gr, 1, none⟩) hgv (.int .i64 s3.l)).setCell (p := ⟨gr, 2, none⟩) hgv (.int .i64 (heldI s3.a x))).setCell (p := ⟨gr, 3, none⟩) hgv (.int .i64 s3.u)
          simp only [List.setIfInBounds_toArray, List.set_cons_succ, List.set_cons_zero] at hr4
          have r0 := cells_at k4 0 (.int .i64 x.id) rfl; have r1 := cells_at k4 1 (.int .i64 (hold now)) rfl; have r2 := cells_at k4 2 (.int .i64 x.maxIdle) rfl; have r3 := cells_at k4 3 (.int .i64 0) rfl
          have z0 := frozen_at' k4 0; have z1 := frozen_at' k4 1; have z2 := frozen_at' k4 2; have z3 := frozen_at' k4 3
          clear t1 t2 k4 j0 j1 j2 j3 j4 j5 j6 j7 j8 j9 j10 p0 p1 p2
          go_upto_region 10 with fail
          clear r0 r1 r2 r3 z0 z1 z2 z3 HSB HD4 HR4 HB45 HB56 hu4s hgl hbu hpu
          generalize World.setCell _ _ _ = u7 at *
          have hu7 := hb5.size
          have HB5 := Lib.hid (HBv.out.trans (hb5.mono HBv.out.size))
          have hw4 := HB5.out.size
          have HW5 := Lib.hid (HW.out.trans (HB5.out.mono hwz))
          have HO5 := Lib.hid (own_same (w' := u7) HO.out (fun q hq => HB5.out.block q (HO.out.lt q hq).2))
          have r0 := cells_at hr4 0 (.int .i64 x.id) rfl; have r1 := cells_at hr4 1 (.int .i64 s3.l) rfl; have r2 := cells_at hr4 2 (.int .i64 (heldI s3.a x)) rfl; have r3 := cells_at hr4 3 (.int .i64 s3.u) rfl
          have HO6 := Lib.hid (HO5.out.alloc (.cells #[.int .i64 x.id, .int .i64 s3.l, .int .i64 (heldI s3.a x), .int .i64 s3.u] 140))
          have HN6 := Lib.hid (news_row (w := u7.alloc (.cells #[.int .i64 x.id, .int .i64 s3.l, .int .i64 (heldI s3.a x), .int .i64 s3.u] 140)) (g := u7.heap.size) (y := ⟨x.id, carryI s3 x⟩) (heap_alloc_new u7 (.cells #[.int .i64 x.id, .int .i64 s3.l, .int .i64 (heldI s3.a x), .int .i64 s3.u] 140)))
          have HB6 := Lib.hid (HW5.out.alloc HW5.out.size (.cells #[.int .i64 x.id, .int .i64 s3.l, .int .i64 (heldI s3.a x), .int .i64 s3.u] 140))
          have HFL := Lib.hid (show os.flatMap G.cells ++ (⟨x.id, carryI s3 x⟩ : G).cells = (os ++ [(⟨x.id, carryI s3 x⟩ : G)]).flatMap G.cells by simp)
          have HLE := Lib.hid (show os.length + 1 = (os ++ [(⟨x.id, carryI s3 x⟩ : G)]).length by simp)
          clear hbK hbKs hb5 hr4 HBv HB5 HO HO5 HW
          go_upto_region 10 with fail
          go_wp2_with ((at_builtin; go_must (refine Li.wpList_cats (by rfl) _ _ 52 (by rfl) w1.heap.size 140 i0 _ 4 32 Tryz.underlying52 hi hz0 hz1 hz2 rfl (by decide) (by decide) _ _ os.length _ HO6.out (by rfl) _ 1 _ (by rfl) HN6.out (by exact g_one _) (by omega) (by decide) HB6.out.size _ _ HLE.out HFL.out ?_); intro A7 c7 w7 hown7 hb7; have HO7 := Lib.hid hown7; have HB7 := Lib.hid (HB6.out.trans hb7); clear hown7 hb7))
          go_roundg (l.length - (k + 1))
          case measure => omega
          case rel =>
            have HO8 := HO7
            rw [← HLE.out] at HO8
            exact ⟨k + 1, A7, c7, by go_num, by rw [HTN.out, ← HLE.out], by omega, by omega, by rw [HTN.out, ← HLE.out]; exact HO8, HB7⟩
    · have hltz : ¬ (k : Int) < (l.length : Int) := by omega
      obtain rfl : k = l.length := by omega
      have ho := HOLD.out
      subst ho
      go_wp2
      go_ret
      exact ⟨B9, c9, rfl, lies_own (fun x => rfl) (by decide) HO.out, HW1.out.trans (HW.out.mono HW1.out.size)⟩
end Go.Proofs.YtpchhfhmopmagaaGreat.Rg

/- The law GaugeCarries. -/
namespace Go.Proofs.YtpchhfhmopmagaaGreat.Rg
open Go.RowKit Go.Maps Wd Li St Sr Go.Proofs.YtpchhfhmopmagaaGreat.Mp Go.Proofs.YtpchhfhmopmagaaGreat.Cl Go.Proofs.YtpchhfhmopmagaaGreat.So Go.Proofs.YtpchhfhmopmagaaGreat.Tr Go.Proofs.YtpchhfhmopmagaaGreat.Tp Go.Proofs.YtpchhfhmopmagaaGreat.Sw Go.Proofs.YtpchhfhmopmagaaGreat.Id Go.Proofs.YtpchhfhmopmagaaGreat.Ga Go.Proofs.YtpchhfhmopmagaaGreat.Cf Go.Proofs.YtpchhfhmopmagaaGreat.Fi Go.Proofs.YtpchhfhmopmagaaGreat.Pa Go.Proofs.YtpchhfhmopmagaaGreat.Qu
attribute [local go_sem] run_store_float Lx.opX Rel.oneOk
attribute [local irreducible] Lx.wpX

theorem gauge_keep {w w' : World} {g h S : Nat} {st : Int → Option S3} (hG : GaugeAt w g h S st) (hb : Below w.heap.size w w') : GaugeAt w' g h S st :=
  ⟨(hb.block g (Array.getElem?_eq_some_iff.1 hG.cell).1).trans hG.cell, hG.map.below hb hG.map.lt⟩
theorem rows_keep {w w' : World} {v : Value} {zs : List G} (hR : HoldsG w.heap.size w v zs) (hb : Below w.heap.size w w') : HoldsG w'.heap.size w' v zs := Lies.up hb.size (Lies.below hb hR)
theorem sl_keep {w w' : World} {A : Option Addr} {zs : List Int} (hs : Sl w w.heap.size 1 A zs.length (St.I zs)) (hb : Below w.heap.size w w') : Sl w' w'.heap.size 1 A zs.length (St.I zs) := (hs.below hb).more hb.size
theorem agree_len {l : List Cls} {st : Int → Option S3} {zs : List G} (h : Agree l st zs) : zs.length = l.length := by
  have := congrArg List.length h.ids
  rwa [List.length_map, ids_len] at this
/-- a block told by a whole world apart from one map -/
theorem other_map {w w' : World} {h n k : Nat} {st : Int → Option S3} {cs : Array Value} {t : TypeId} (hg : w.grownBy w' (some h)) (hm : StM w h n st) (hk : w.heap[k]? = some (.cells cs t (0, 0))) : w'.heap[k]? = some (.cells cs t (0, 0)) := by
  refine (hg.block k (Array.getElem?_eq_some_iff.1 hk).1 (fun e => ?_)).trans hk
  injection e with e
  obtain ⟨es, m, hm⟩ := at_isMap hm
  rw [← e, hk] at hm
  cases hm
set_option maxRecDepth 20000 in
set_option maxHeartbeats 4000000 in
theorem gcarries_t (t r d : Int) (hdw : (Lit.int .i64 d).wf = true) (A : Option Addr) (na ca : Nat) (B : Option Addr) (mb cb : Nat) (l : List Cls) (fs : List F) (hs : ∀ x ∈ l, x.share < 18446744073709551616) (hcap : na ≤ ca) (t2 r2 d2 : Int) (hdw2 : (Lit.int .i64 d2).wf = true) (A2 : Option Addr) (na2 ca2 : Nat) (B2 : Option Addr) (mb2 cb2 : Nat) (l2 : List Cls) (fs2 : List F) (hs2 : ∀ x ∈ l2, x.share < 18446744073709551616) (hcap2 : na2 ≤ ca2) (P : Option Addr) (pn pc : Nat) (ps : List Pt) (hpw : ∀ x ∈ ps, (Lit.int .i64 x.leaf).wf = true ∧ (Lit.int .i64 x.size).wf = true) (w : World) (hI : Holds w.heap.size w (.slice A na ca) l) (hF : HoldsF w.heap.size w (.slice B mb cb) fs) (hI2 : Holds w.heap.size w (.slice A2 na2 ca2) l2) (hF2 : HoldsF w.heap.size w (.slice B2 mb2 cb2) fs2) (hP : Lies 3 Pt.cells w.heap.size w (.slice P pn pc) ps) :
    Calls Tryz.prog 8 #[cfV t r d (.slice A na ca) (.slice B mb cb), cfV t2 r2 d2 (.slice A2 na2 ca2) (.slice B2 mb2 cb2), .slice P pn pc] w fun e w' => e = .returned (.bool true) ∧ Below w.heap.size w w' := by
  have HL := Lib.hid lives26
  have HFW := Lib.hid (fun u => few_c t r d A na ca B mb cb u)
  have HFW2 := Lib.hid (fun u => few_c t2 r2 d2 A2 na2 ca2 B2 mb2 cb2 u)
  have HI := Lib.hid hI; have HF := Lib.hid hF; have HI2 := Lib.hid hI2; have HF2 := Lib.hid hF2; have HP := Lib.hid hP; have HPW := Lib.hid hpw
  have HNL := Lib.hid (holds_parts hI).1
  have HML := Lib.hid (Lies.parts hF).1
  have HNL2 := Lib.hid (holds_parts hI2).1
  have HML2 := Lib.hid (Lies.parts hF2).1
  obtain ⟨rfl, _⟩ := Lies.parts hP
  have hE0 : ((w.alloc (.cells #[.int .i64 t, .int .i64 r, .int .i64 d, .slice A na ca, .slice B mb cb] 25)).alloc (.cells #[.int .i64 t2, .int .i64 r2, .int .i64 d2, .slice A2 na2 ca2, .slice B2 mb2 cb2] 25)).heap[w.heap.size]? = some (.cells #[.int .i64 t, .int .i64 r, .int .i64 d, .slice A na ca, .slice B mb cb] 25 (0, 0)) := (Below.heap_alloc _ _ _ (by simp)).trans (heap_alloc_new _ _)
  have hE1 : ((w.alloc (.cells #[.int .i64 t, .int .i64 r, .int .i64 d, .slice A na ca, .slice B mb cb] 25)).alloc (.cells #[.int .i64 t2, .int .i64 r2, .int .i64 d2, .slice A2 na2 ca2, .slice B2 mb2 cb2] 25)).heap[w.heap.size + 1]? = some (.cells #[.int .i64 t2, .int .i64 r2, .int .i64 d2, .slice A2 na2 ca2, .slice B2 mb2 cb2] 25 (0, 0)) := by
    have h := heap_alloc_new (w.alloc (.cells #[.int .i64 t, .int .i64 r, .int .i64 d, .slice A na ca, .slice B mb cb] 25)) (.cells #[.int .i64 t2, .int .i64 r2, .int .i64 d2, .slice A2 na2 ca2, .slice B2 mb2 cb2] 25)
    rw [show (w.alloc (.cells #[.int .i64 t, .int .i64 r, .int .i64 d, .slice A na ca, .slice B mb cb] 25)).heap.size = w.heap.size + 1 by simp] at h; exact h
  have hEb : Below w.heap.size w ((w.alloc (.cells #[.int .i64 t, .int .i64 r, .int .i64 d, .slice A na ca, .slice B mb cb] 25)).alloc (.cells #[.int .i64 t2, .int .i64 r2, .int .i64 d2, .slice A2 na2 ca2, .slice B2 mb2 cb2] 25)) := ((Below.refl _ w).alloc (Nat.le_refl _) _).alloc (by simp) _
  have hEz : ((w.alloc (.cells #[.int .i64 t, .int .i64 r, .int .i64 d, .slice A na ca, .slice B mb cb] 25)).alloc (.cells #[.int .i64 t2, .int .i64 r2, .int .i64 d2, .slice A2 na2 ca2, .slice B2 mb2 cb2] 25)).heap.size = w.heap.size + 2 := by simp
  have H0 := Lib.hid hE0; have H1 := Lib.hid hE1; have HB0 := Lib.hid hEb; have HZ0 := Lib.hid hEz
  have HST0 := Lib.hid (fun u => state_nil 1 u)
  unfold StateOk at HST0
  simp only [Option.getD_none, Option.isSome_none] at HST0
  unfold S3.nil S3.agg at HST0
  clear hI hF hI2 hF2 hP hpw hE0 hE1 hEb hEz
  go_enter Tryz.func8, Tryz.ntmps8
  go_upto_region 2 with fail
  generalize World.alloc (World.alloc w _) _ = U at *
  obtain ⟨xb, hxb⟩ : ∃ xb, xb = w.heap.size := ⟨_, rfl⟩
  obtain ⟨yb, hyb⟩ : ∃ yb, yb = w.heap.size + 1 := ⟨_, rfl⟩
  have hxU : xb < U.heap.size := by have := HZ0.out; omega
  have hyU : yb < U.heap.size := by have := HZ0.out; omega
  rw [← hyb] at H1 ⊢
  rw [← hxb] at H0 ⊢
  clear hxb hyb HZ0
  go_upto_region 3 with (go_at_call 24; (with_reducible refine (HST0.out _).mono ?_); rintro e w1 ⟨rfl, hb1⟩; have HB1 := Lib.hid hb1; clear hb1)
  have HB2 := Lib.hid (HB1.out.alloc HB1.out.size (.cells #[.int .i64 0, .int .i64 0, .int .i64 0] 46))
  generalize World.alloc w1 _ = w2 at *
  go_upto_region 5 with (first
    | (go_at_call 22; (with_reducible refine (gsent_nil 1 1 1 _).mono ?_); rintro e w3 ⟨rfl, hb1⟩; have HB3 := Lib.hid hb1; clear hb1)
    | (go_at_call 40; (with_reducible refine (gover_nil 1 0 _).mono ?_); rintro e w4 ⟨rfl, hb1⟩; have HB4 := Lib.hid hb1; clear hb1)
    | (go_at_call 41; (with_reducible refine (govers_nil 0 _).mono ?_); rintro e w9 ⟨rfl, hw9⟩; subst w9)
    | (go_at_call 42; (with_reducible refine (gwake_nil 1 5 _).mono ?_); rintro e w5 ⟨rfl, hb1⟩; have HB5 := Lib.hid hb1; clear hb1)
    | (go_at_call 43; (with_reducible refine (gcopy_nil _).mono ?_); rintro e w9 ⟨rfl, hw9⟩; subst w9)
    | (go_at_call 44; (with_reducible refine (gcarry_nil 0 _).mono ?_); rintro e w9 ⟨rfl, hw9⟩; subst w9))
  have HU5 := Lib.hid (HB2.out.trans ((HB3.out.trans ((HB4.out.trans (HB5.out.mono HB4.out.size)).mono HB3.out.size)).mono HB2.out.size))
  have HW5 := Lib.hid (HB0.out.trans (HU5.out.mono HB0.out.size))
  have hx5 : xb < w5.heap.size := Nat.lt_of_lt_of_le hxU HU5.out.size
  have hy5 : yb < w5.heap.size := Nat.lt_of_lt_of_le hyU HU5.out.size
  have KX5 := Lib.hid ((HU5.out.block xb hxU).trans H0.out)
  have KY5 := Lib.hid ((HU5.out.block yb hyU).trans H1.out)
  clear H0 H1 HB0 HB1 HB2 HB3 HB4 HB5 HU5 HST0 hxU hyU
  have c0 := cells_at KX5.out 0 (.int .i64 t) rfl; have c1 := cells_at KX5.out 1 (.int .i64 r) rfl; have c2 := cells_at KX5.out 2 (.int .i64 d) rfl; have c3 := cells_at KX5.out 3 (.slice A na ca) rfl; have c4 := cells_at KX5.out 4 (.slice B mb cb) rfl
  cases hfew : (decide (na ≤ 70) && decide (mb ≤ 70)) with
  | false =>
    rw [hfew] at HFW
    clear hfew
    go_wp2_with (first
      | (go_at_call 10; (with_reducible refine (HFW.out _).mono ?_); rintro e w6 ⟨rfl, hb1⟩; have HB6 := Lib.hid hb1; clear hb1)
      | (go_at_call 17; (with_reducible refine (HL.out _).mono ?_); rintro e w7 ⟨rfl, hb2⟩; have HB7 := Lib.hid hb2; clear hb2))
    go_ret
    exact ⟨rfl, HW5.out.trans ((HB6.out.trans (HB7.out.mono HB6.out.size)).mono HW5.out.size)⟩
  | true =>
    rw [hfew] at HFW
    have HFE := Lib.hid hfew
    clear hfew
    cases hfew2 : (decide (na2 ≤ 70) && decide (mb2 ≤ 70)) with
    | false =>
      rw [hfew2] at HFW2
      clear hfew2
      go_wp2_with (first
        | (go_at_call 10; (with_reducible refine (HFW.out _).mono ?_); rintro e w6 ⟨rfl, hb1⟩; have ky := (hb1.block yb hy5).trans KY5.out; have e0 := cells_at ky 0 (.int .i64 t2) rfl; have e1 := cells_at ky 1 (.int .i64 r2) rfl; have e2 := cells_at ky 2 (.int .i64 d2) rfl; have e3 := cells_at ky 3 (.slice A2 na2 ca2) rfl; have e4 := cells_at ky 4 (.slice B2 mb2 cb2) rfl; have HB6 := Lib.hid hb1; clear hb1 ky)
        | (go_at_call 10; (with_reducible refine (HFW2.out _).mono ?_); rintro e w7 ⟨rfl, hb1⟩; have HB7 := Lib.hid hb1; clear hb1)
        | (go_at_call 17; (with_reducible refine (HL.out _).mono ?_); rintro e w8 ⟨rfl, hb2⟩; have HB8 := Lib.hid hb2; clear hb2))
      go_ret
      exact ⟨rfl, HW5.out.trans ((HB6.out.trans ((HB7.out.trans (HB8.out.mono HB7.out.size)).mono HB6.out.size)).mono HW5.out.size)⟩
    | true =>
      rw [hfew2] at HFW2
      have HFE2 := Lib.hid hfew2
      clear hfew2
      by_cases hp20 : (20 : Int) < (ps.length : Int)
      · go_wp2_with (first
          | (go_at_call 10; (with_reducible refine (HFW.out _).mono ?_); rintro e w6 ⟨rfl, hb1⟩; have ky := (hb1.block yb hy5).trans KY5.out; have e0 := cells_at ky 0 (.int .i64 t2) rfl; have e1 := cells_at ky 1 (.int .i64 r2) rfl; have e2 := cells_at ky 2 (.int .i64 d2) rfl; have e3 := cells_at ky 3 (.slice A2 na2 ca2) rfl; have e4 := cells_at ky 4 (.slice B2 mb2 cb2) rfl; have HB6 := Lib.hid hb1; clear hb1 ky)
          | (go_at_call 10; (with_reducible refine (HFW2.out _).mono ?_); rintro e w7 ⟨rfl, hb1⟩; have HB7 := Lib.hid hb1; clear hb1)
          | (go_at_call 17; (with_reducible refine (HL.out _).mono ?_); rintro e w8 ⟨rfl, hb2⟩; have HB8 := Lib.hid hb2; clear hb2))
        go_ret
        exact ⟨rfl, HW5.out.trans ((HB6.out.trans ((HB7.out.trans (HB8.out.mono HB7.out.size)).mono HB6.out.size)).mono HW5.out.size)⟩
      go_upto_region 7 with (first
        | (go_at_call 10; (with_reducible refine (HFW.out _).mono ?_); rintro e w6 ⟨rfl, hb1⟩; have ky := (hb1.block yb hy5).trans KY5.out; have e0 := cells_at ky 0 (.int .i64 t2) rfl; have e1 := cells_at ky 1 (.int .i64 r2) rfl; have e2 := cells_at ky 2 (.int .i64 d2) rfl; have e3 := cells_at ky 3 (.slice A2 na2 ca2) rfl; have e4 := cells_at ky 4 (.slice B2 mb2 cb2) rfl; have HB6 := Lib.hid hb1; clear hb1 ky)
        | (go_at_call 10; (with_reducible refine (HFW2.out _).mono ?_); rintro e w7 ⟨rfl, hb1⟩; have HB7 := Lib.hid hb1; clear hb1))
      have HB57 := Lib.hid (HB6.out.trans (HB7.out.mono HB6.out.size))
      have HW7 := Lib.hid (HW5.out.trans (HB57.out.mono HW5.out.size))
      have hx7 : xb < w7.heap.size := Nat.lt_of_lt_of_le hx5 HB57.out.size
      have hy7 : yb < w7.heap.size := Nat.lt_of_lt_of_le hy5 HB57.out.size
      have KX7 := Lib.hid ((HB57.out.block xb hx5).trans KX5.out)
      have KY7 := Lib.hid ((HB57.out.block yb hy5).trans KY5.out)
      have hl70 : l.length ≤ 70 ∧ fs.length ≤ 70 := by have := HFE.out; rw [← HNL.out, ← HML.out]; simpa using this
      have hl702 : l2.length ≤ 70 ∧ fs2.length ≤ 70 := by have := HFE2.out; rw [← HNL2.out, ← HML2.out]; simpa using this
      have HCO := Lib.hid (compile_c t r d hdw A na ca B mb cb l fs hs (by omega) (by omega) hcap w7 ((HI.out.below HW7.out).up HW7.out.size) (Lies.up HW7.out.size (Lies.below HW7.out HF.out)))
      have HCO2 := Lib.hid (fun (u : World) (h : Below w.heap.size w u) => compile_c t2 r2 d2 hdw2 A2 na2 ca2 B2 mb2 cb2 l2 fs2 hs2 (by omega) (by omega) hcap2 u ((HI2.out.below h).up h.size) (Lies.up h.size (Lies.below h HF2.out)))
      unfold CompCOk cfV at HCO HCO2
      clear c0 c1 c2 c3 c4 e0 e1 e2 e3 e4 KX5 KY5 HB6 HB7 HB57 HFW HFW2 hx5 hy5 HFE HFE2
      have c0 := cells_at KX7.out 0 (.int .i64 t) rfl; have c1 := cells_at KX7.out 1 (.int .i64 r) rfl; have c2 := cells_at KX7.out 2 (.int .i64 d) rfl; have c3 := cells_at KX7.out 3 (.slice A na ca) rfl; have c4 := cells_at KX7.out 4 (.slice B mb cb) rfl
      by_cases hch : chkC t r d l fs = 0
      rotate_left
      · have hrn : (chkC t r d l fs != 0) = true := by rw [bne_iff_ne]; exact hch
        have HRN := Lib.hid hch
        clear hch
        generalize hrx : chkC t r d l fs = rx at *
        clear hrx
        go_upto_region 8 with (go_at_call 18; (with_reducible refine (HCO.out).mono ?_); rintro e w8 (⟨_, rfl, hb2⟩ | ⟨h0, _⟩); rotate_left; exact absurd h0 HRN.out; have HB8 := Lib.hid hb2; clear hb2)
        have HW8 := Lib.hid (HW7.out.trans (HB8.out.mono HW7.out.size))
        have ky := (HB8.out.block yb hy7).trans KY7.out
        have e0 := cells_at ky 0 (.int .i64 t2) rfl; have e1 := cells_at ky 1 (.int .i64 r2) rfl; have e2 := cells_at ky 2 (.int .i64 d2) rfl; have e3 := cells_at ky 3 (.slice A2 na2 ca2) rfl; have e4 := cells_at ky 4 (.slice B2 mb2 cb2) rfl
        have HCX := Lib.hid (HCO2.out w8 HW8.out)
        by_cases hch2 : chkC t2 r2 d2 l2 fs2 = 0
        · have HC2 := Lib.hid hch2
          clear hch2
          go_wp2_with (first
            | (go_at_call 18; (with_reducible refine (HCX.out).mono ?_); rintro e w9 (⟨h0, _⟩ | ⟨_, S2, rfl, _, _, hb2⟩); exact absurd HC2.out h0; have HB9 := Lib.hid hb2; clear hb2)
            | (go_at_call 17; (with_reducible refine (HL.out _).mono ?_); rintro e w10 ⟨rfl, hb2⟩; have HB10 := Lib.hid hb2; clear hb2))
          go_ret
          exact ⟨rfl, HW8.out.trans ((HB9.out.trans (HB10.out.mono HB9.out.size)).mono HW8.out.size)⟩
        · have HC2 := Lib.hid hch2
          clear hch2
          generalize hry : chkC t2 r2 d2 l2 fs2 = ry at *
          clear hry
          go_wp2_with (first
            | (go_at_call 18; (with_reducible refine (HCX.out).mono ?_); rintro e w9 (⟨_, rfl, hb2⟩ | ⟨h0, _⟩); rotate_left; exact absurd h0 HC2.out; have HB9 := Lib.hid hb2; clear hb2)
            | (go_at_call 17; (with_reducible refine (HL.out _).mono ?_); rintro e w10 ⟨rfl, hb2⟩; have HB10 := Lib.hid hb2; clear hb2))
          go_ret
          exact ⟨rfl, HW8.out.trans ((HB9.out.trans (HB10.out.mono HB9.out.size)).mono HW8.out.size)⟩
      have R := chk_tree (chkC_tree hch)
      have HCH := Lib.hid hch; have HR := Lib.hid R; have HSH := Lib.hid hs
      clear hch R
      go_upto_region 8 with (go_at_call 18; (with_reducible refine (HCO.out).mono ?_); rintro e w8 (⟨h0, _⟩ | ⟨_, S, rfl, hS, hle, hb2⟩); exact absurd HCH.out h0; have HS8 := Lib.hid hS; have HB8 := Lib.hid hb2; clear hb2 hS hle)
      have HW8 := Lib.hid (HW7.out.trans (HB8.out.mono HW7.out.size))
      have ky := (HB8.out.block yb hy7).trans KY7.out
      have e0 := cells_at ky 0 (.int .i64 t2) rfl; have e1 := cells_at ky 1 (.int .i64 r2) rfl; have e2 := cells_at ky 2 (.int .i64 d2) rfl; have e3 := cells_at ky 3 (.slice A2 na2 ca2) rfl; have e4 := cells_at ky 4 (.slice B2 mb2 cb2) rfl
      have HCX := Lib.hid (HCO2.out w8 HW8.out)
      clear ky HCO HCO2 c0 c1 c2 c3 c4
      by_cases hch2 : chkC t2 r2 d2 l2 fs2 = 0
      rotate_left
      · have hrn : (chkC t2 r2 d2 l2 fs2 != 0) = true := by rw [bne_iff_ne]; exact hch2
        have HC2 := Lib.hid hch2
        clear hch2
        generalize hry : chkC t2 r2 d2 l2 fs2 = ry at *
        clear hry
        go_wp2_with (first
          | (go_at_call 18; (with_reducible refine (HCX.out).mono ?_); rintro e w9 (⟨_, rfl, hb2⟩ | ⟨h0, _⟩); rotate_left; exact absurd h0 HC2.out; have HB9 := Lib.hid hb2; clear hb2)
          | (go_at_call 17; (with_reducible refine (HL.out _).mono ?_); rintro e w10 ⟨rfl, hb2⟩; have HB10 := Lib.hid hb2; clear hb2))
        go_ret
        exact ⟨rfl, HW8.out.trans ((HB9.out.trans (HB10.out.mono HB9.out.size)).mono HW8.out.size)⟩
      have HC2 := Lib.hid hch2; have HR2 := Lib.hid (chk_tree (chkC_tree hch2)); have HSH2 := Lib.hid hs2
      clear hch2
      go_upto_region 11 with (go_at_call 18; (with_reducible refine (HCX.out).mono ?_); rintro e wS (⟨h0, _⟩ | ⟨_, S2, rfl, hS, hle, hb2⟩); exact absurd HC2.out h0; have HS2 := Lib.hid hS; have HB9 := Lib.hid hb2; clear hb2 hS hle)
      have HWS := Lib.hid (HW8.out.trans (HB9.out.mono HW8.out.size))
      have HB79 := Lib.hid (HB8.out.trans (HB9.out.mono HB8.out.size))
      have HS1 := Lib.hid ((HS8.out.below HB9.out).up HB9.out.size)
      have hxS : xb < wS.heap.size := Nat.lt_of_lt_of_le hx7 HB79.out.size
      have hyS : yb < wS.heap.size := Nat.lt_of_lt_of_le hy7 HB79.out.size
      have KX := Lib.hid ((HB79.out.block xb hx7).trans KX7.out)
      have KY := Lib.hid ((HB79.out.block yb hy7).trans KY7.out)
      have hwS := HWS.out.size
      clear e0 e1 e2 e3 e4 HCX KX7 KY7 HS8 HB8 HB9 HB79 hx7 hy7
      have hnl := HNL.out
      have hnl2 := HNL2.out
      subst hnl hnl2
      clear HNL HNL2 HML HML2
      have HNG := Lib.hid (fun (u : World) (h : Below wS.heap.size wS u) => newg_c t r d l fs HR.out HSH.out S 0 u ((HS1.out.below h).up h.size))
      have HRG := Lib.hid (fun (u : World) (h : Below wS.heap.size wS u) => refgnew_c t r d A l.length ca B mb cb l HR.out.right HSH.out hl70.1 0 u ((HI.out.below (HWS.out.trans (h.mono hwS))).up (Nat.le_trans hwS h.size)))
      unfold NewgOk at HNG
      unfold RowsOk at HRG
      have c0 := cells_at KX.out 0 (.int .i64 t) rfl; have c1 := cells_at KX.out 1 (.int .i64 r) rfl; have c2 := cells_at KX.out 2 (.int .i64 d) rfl; have c3 := cells_at KX.out 3 (.slice A l.length ca) rfl; have c4 := cells_at KX.out 4 (.slice B mb cb) rfl
      have HD := Lib.hid ((Below.refl wS.heap.size wS).drew)
      have HSB : Hid (∀ q, (q = xb) → q < wS.heap.size) := Lib.hid (fun q hq => by omega)
      refine Lx.wp_region_Y 5 (fun w' => ∃ z, w' = Lx.kept (fun q => q = xb) wS.drew z) [1, 3] (by kernel_rfl) (by kernel_rfl) (Lx.kept_of (Lx.Keeps.refl _ _)) ?_
      simp only [List.take_succ_cons, List.take_zero, List.drop_succ_cons, List.drop_zero]
      repeat (refine Lx.wpX_step (fun K hK => ?_); first | (refine Lx.opX_free (by rfl) (by rfl) (by rfl) ?_; go_big_quiet_op; refine hK _ _ ?_; clear hK K) | (refine Lx.opX_nil (by rfl) (by rfl) (by rfl) (by rfl) ?_; refine hK _ _ ?_; clear hK K; simp only [Act.put, List.setIfInBounds_toArray, List.set_cons_succ, List.set_cons_zero]) | (refine Lx.opX_skip (by rfl) ?_; refine hK _ _ ?_; clear hK K; simp only [Act.put, List.setIfInBounds_toArray, List.set_cons_succ, List.set_cons_zero]))
      refine Lx.wpX_step (fun K hK => ?_)
      refine Lx.opX_law (by rfl) (by rfl) ?_
      go_wp2_with (go_at_call 21; (with_reducible refine (HNG.out _ HD.out).mono ?_); rintro e a1 ⟨g, h, rfl, hG, hg1, hh1, hgh, hb5⟩; have hbk := HD.out.trans (hb5.mono HD.out.size); have HB10 := Lib.hid hbk; have HG1 := Lib.hid hG; clear hb5 hbk hG)
      refine Lx.nq_mk (Lx.kept_of (fun y hy => HB10.out.block y (HSB.out y hy))) (hK _ _ ?_)
      clear hK K
      repeat (refine Lx.wpX_step (fun K hK => ?_); first | (refine Lx.opX_free (by rfl) (by rfl) (by rfl) ?_; go_big_quiet_op; refine hK _ _ ?_; clear hK K) | (refine Lx.opX_nil (by rfl) (by rfl) (by rfl) (by rfl) ?_; refine hK _ _ ?_; clear hK K; simp only [Act.put, List.setIfInBounds_toArray, List.set_cons_succ, List.set_cons_zero]) | (refine Lx.opX_skip (by rfl) ?_; refine hK _ _ ?_; clear hK K; simp only [Act.put, List.setIfInBounds_toArray, List.set_cons_succ, List.set_cons_zero]))
      refine Lx.wpX_step (fun K hK => ?_)
      refine Lx.opX_law (by rfl) (by rfl) ?_
      go_wp2_with (go_at_call 26; (with_reducible refine (HRG.out _ HB10.out).mono ?_); rintro e a2 ⟨Z2, zc2, rfl, hr, hb5⟩; have hbk := HB10.out.trans (hb5.mono HB10.out.size); have HB11 := Lib.hid hbk; have HG2 := Lib.hid (gauge_keep HG1.out hb5); have HZ2 := Lib.hid hr; clear hb5 hbk hr)
      refine Lx.nq_mk (Lx.kept_of (fun y hy => HB11.out.block y (HSB.out y hy))) (hK _ _ ?_)
      clear hK K
      repeat (refine Lx.wpX_step (fun K hK => ?_); first | (refine Lx.opX_free (by rfl) (by rfl) (by rfl) ?_; go_big_quiet_op; refine hK _ _ ?_; clear hK K) | (refine Lx.opX_nil (by rfl) (by rfl) (by rfl) (by rfl) ?_; refine hK _ _ ?_; clear hK K; simp only [Act.put, List.setIfInBounds_toArray, List.set_cons_succ, List.set_cons_zero]) | (refine Lx.opX_skip (by rfl) ?_; refine hK _ _ ?_; clear hK K; simp only [Act.put, List.setIfInBounds_toArray, List.set_cons_succ, List.set_cons_zero]))
      refine Lx.wpX_nil ?_
      have hgS : wS.heap.size ≤ g := hg1
      have hhS : wS.heap.size ≤ h := hh1
      clear hg1 hh1 c0 c1 c2 c3 c4 HNG HRG HD HB10 HG1
      have HAG0 := Lib.hid (Agree.new HR.out 0)
      have HIN0 := Lib.hid (st0_in l 0)
      generalize hzs5 : rowsK l 0 l.length = zs0 at *
      generalize st0 l 0 = st0' at *
      clear hzs5
      have HIU := Lib.hid (fun (u : World) (h : Below wS.heap.size wS u) => (HI.out.below (HWS.out.trans (h.mono hwS))).up (Nat.le_trans hwS h.size))
      have HIU2 := Lib.hid (fun (u : World) (h : Below wS.heap.size wS u) => (HI2.out.below (HWS.out.trans (h.mono hwS))).up (Nat.le_trans hwS h.size))
      have HLV := Lib.hid (refleaves_c A ca l (by omega) a2 (HIU.out a2 HB11.out))
      unfold ListOk at HLV
      have hl1 := some_leaf HR.out
      have hll := Nat.le_trans (leaves_len l) HR.out.le
      have HLF : Hid (∀ y, y ∈ leavesS l → leafB l y = true ∧ (Lit.int .i64 y).wf = true) := Lib.hid (fun y hy => ⟨leaf_is hy, Fit.wf (.inr HR.out) (leaf_mem hy)⟩)
      obtain ⟨ls, hls⟩ : ∃ ls, ls = leavesS l := ⟨_, rfl⟩
      rw [← hls] at HLV hl1 hll HLF
      clear hls
      have x3 := cells_at ((HB11.out.block xb hxS).trans KX.out) 3 (.slice A l.length ca) rfl
      go_wp2_with (go_at_call 28; (with_reducible refine (HLV.out).mono ?_); rintro e a3 ⟨A3, c3, rfl, hs3, hb5⟩; have hbk := HB11.out.trans (hb5.mono HB11.out.size); have HB12 := Lib.hid hbk; have HSL := Lib.hid hs3; have HG3 := Lib.hid (gauge_keep HG2.out hb5); have HZ3 := Lib.hid (rows_keep HZ2.out hb5); clear hb5 hbk hs3)
      clear x3 HLV HG2 HZ2 HB11
      go_loopg [15, 97] ps.length (fun kx s15 s97 wr => ∃ (k : Nat) (st : Int → Option S3) (zs : List G) (Az : Option Addr) (cz : Nat), s97 = .int .i64 k ∧ s15 = .slice Az zs.length cz ∧ k ≤ ps.length ∧ ps.length - k ≤ kx ∧ Hid (Agree l st zs) ∧ Hid (∀ i, (st i).isSome = true → i ∈ ids l) ∧ Hid (GaugeAt wr g h S st) ∧ Hid (HoldsG wr.heap.size wr (.slice Az zs.length cz) zs) ∧ Hid (Sl wr wr.heap.size 1 A3 ls.length (St.I ls)) ∧ Hid (Below wS.heap.size wS wr))
      case atStart => exact ⟨0, st0', zs0, Z2, zc2, rfl, rfl, by omega, by omega, HAG0, HIN0, HG3, HZ3, HSL, HB12⟩
      case round =>
        obtain ⟨k, st, zs, Az, cz, rfl, rfl, hk, hkx, HAG, HIN, HG, HZ, HSR, HW⟩ := hrel
        have hwz := HW.out.size
        have HWW := Lib.hid (HWS.out.trans (HW.out.mono HWS.out.size))
        have hzl : zs.length ≤ 70 := by rw [agree_len HAG.out]; exact hl70.1
        by_cases hlt : k < ps.length
        · have hltz : (k : Int) < (ps.length : Int) := by omega
          obtain ⟨_, hcs⟩ := Lies.parts HP.out
          obtain ⟨pb, po, rfl, hpb, hpc⟩ := hcs (by omega)
          obtain ⟨x, hx⟩ : ∃ x, ps[k]? = some x := ⟨_, List.getElem?_eq_getElem hlt⟩
          have hcx : ∀ (i : Nat) (v : Value), x.cells[i]? = some v → wr.cell? ⟨pb, po + k * 3 + i, none⟩ = some v := fun i v hv => (HWW.out.cell (p := ⟨pb, po + k * 3 + i, none⟩) hpb).trans (hpc k x hx i v hv)
          have c0 : wr.cell? ⟨pb, po + k * 3, none⟩ = some (.int .i64 x.leaf) := hcx 0 _ rfl
          have c1 : wr.cell? ⟨pb, po + k * 3 + 1, none⟩ = some (.int .i64 x.size) := hcx 1 _ rfl
          have c2 : wr.cell? ⟨pb, po + k * 3 + 2, none⟩ = some (.int .i64 x.aft) := hcx 2 _ rfl
          have hsw := (HPW.out x (List.mem_of_getElem? hx)).2
          clear hcs hpc hx hcx
          go_upto_region 16 with fail
          have hh := heap_alloc_new wr (.cells #[.int .i64 x.leaf, .int .i64 x.size, .int .i64 x.aft] 55)
          have hb1 := (Below.refl wr.heap.size wr).alloc (Nat.le_refl _) (.cells #[.int .i64 x.leaf, .int .i64 x.size, .int .i64 x.aft] 55)
          have hz1 : (wr.alloc (.cells #[.int .i64 x.leaf, .int .i64 x.size, .int .i64 x.aft] 55)).heap.size = wr.heap.size + 1 := by simp
          generalize World.alloc wr _ = v at *
          obtain ⟨px, hpx⟩ : ∃ px, px = wr.heap.size := ⟨_, rfl⟩
          rw [← hpx] at hh ⊢
          have hpv : px < v.heap.size := by omega
          have HPX := Lib.hid hh
          have d1 := cells_at hh 1 (.int .i64 x.size) rfl
          have HGv := Lib.hid (gauge_keep HG.out hb1)
          have HZv := Lib.hid (rows_keep HZ.out hb1)
          have HSv := Lib.hid (sl_keep HSR.out hb1)
          have HBv := Lib.hid (HW.out.trans (hb1.mono hwz))
          clear hpx hz1 hb1 hh c0 c1 c2 HG HZ HSR
          have hmod : k % ls.length < ls.length := Nat.mod_lt _ (by omega)
          have hrem : Int.tmod (k : Int) (ls.length : Int) = ((k % ls.length : Nat) : Int) := by rw [Int.tmod_eq_emod_of_nonneg (by omega)]; exact (Int.natCast_emod k ls.length).symm
          obtain ⟨y, hy⟩ : ∃ y, ls[k % ls.length]? = some y := ⟨_, List.getElem?_eq_getElem hmod⟩
          obtain ⟨a, u, rfl, hab, hu, cy⟩ := HSv.out.cell1 (k := k % ls.length) hmod
          unfold St.I at hu
          rw [List.getElem?_map, hy] at hu
          obtain rfl : Value.int .i64 y = u := by injection hu
          obtain ⟨hyl, hyw⟩ := HLF.out y (List.mem_of_getElem? hy)
          obtain ⟨m, hm⟩ : ∃ m, m = k % ls.length := ⟨_, rfl⟩
          rw [← hm] at hrem cy hmod
          have hmz : (m : Int) < (ls.length : Int) := by omega
          have hln0 : ((ls.length : Int) == 0) = false := by rw [beq_eq_false_iff_ne]; omega
          have hln1 : ¬ (ls.length : Int) = 0 := by omega
          clear hm hu hy
          have HSN := Lib.hid (gsent_c t r d l fs HR.out HSH.out g h S wS.heap.size st y x.size (10 * (k : Int)) hyw hyl v HIN.out HBv.out.size hgS hhS hgh (HS1.out.below HBv.out) HGv.out)
          unfold SentOk at HSN
          have HAG' := Lib.hid (HAG.out.put HR.out t y x.size (10 * (k : Int)))
          have HIN' := Lib.hid (fun i => sentM_in (tpb := t) (size := x.size) (now := 10 * (k : Int)) (way l y) st HIN.out i)
          obtain ⟨st', hst'⟩ : ∃ st', st' = sentM l t x.size (10 * (k : Int)) st (way l y) := ⟨_, rfl⟩
          rw [← hst'] at HSN HAG' HIN'
          obtain ⟨zs', hzs'⟩ : ∃ zs', zs' = zs.map (putG l t y x.size (10 * (k : Int))) := ⟨_, rfl⟩
          rw [← hzs'] at HAG'
          clear hst'
          have HZZ := Lib.hid hzs'
          clear hzs'
          go_upto_region 19 with (go_at_call 22; (with_reducible refine (HSN.out).mono ?_); rintro e w6 ⟨rfl, hG6, hg6⟩; have HG6 := Lib.hid hG6; have HZ6 := Lib.hid (grown_keep (z := 4) (cells := G.cells) (fun x => rfl) (by decide) HZv.out HGv.out.map hg6); have HS6 := Lib.hid ((sl_map HSv.out rfl (at_isMap HGv.out.map) (fun q hq hne => hg6.block q hq (fun e => hne (by injection e)))).more hg6.size); have hq6 := other_map hg6 HGv.out.map HPX.out; have HB6 := Lib.hid (HBv.out.trans (below_of_gr hg6 HBv.out.size hhS)); have HQ6 := Lib.hid hq6; clear hG6 hg6 hq6)
          have k0 := (HB6.out.block xb hxS).trans KX.out
          clear d1 cy
          have d1 := cells_at HQ6.out 1 (.int .i64 x.size) rfl
          have c0 := cells_at k0 0 (.int .i64 t) rfl; have c1 := cells_at k0 1 (.int .i64 r) rfl; have c2 := cells_at k0 2 (.int .i64 d) rfl; have c3 := cells_at k0 3 (.slice A l.length ca) rfl; have c4 := cells_at k0 4 (.slice B mb cb) rfl
          have HRS := Lib.hid (refgsent_c t r d A ca B mb cb l HR.out HSH.out zs (by omega) Az zs.length cz y x.size (10 * (k : Int)) hsw w6 (HIU.out w6 HB6.out) HZ6.out)
          unfold RowsOk at HRS
          rw [← HZZ.out] at HRS
          clear k0 HSN HGv HZv HSv HAG HIN
          go_wp2_with (go_at_call 29; (with_reducible refine (HRS.out).mono ?_); rintro e w8 ⟨A8, c8, rfl, hr8, hb8⟩; have HZ8 := Lib.hid hr8; have HB8 := Lib.hid (HB6.out.trans (hb8.mono HB6.out.size)); have HG8 := Lib.hid (gauge_keep HG6.out hb8); have HS8 := Lib.hid (sl_keep HS6.out hb8); clear hr8 hb8)
          go_roundg (ps.length - (k + 1))
          case measure => exact Nat.lt_of_lt_of_le (Nat.sub_lt_sub_left hlt (Nat.lt_succ_self k)) hkx
          case rel => exact ⟨k + 1, st', zs', A8, c8, by go_num, rfl, by omega, by omega, HAG', HIN', HG8, HZ8, HS8, HB8⟩
        · have hltz : ¬ (k : Int) < (ps.length : Int) := by omega
          obtain rfl : k = ps.length := by omega
          have HOLD := Lib.hid (Agree.old HR.out HAG.out HIN.out)
          have HCP := Lib.hid (gcopy_c g h S st wr HG.out)
          unfold CopyOk at HCP
          have HCR := Lib.hid (fun (u : World) (hu : Below wr.heap.size wr u) => carryg_c g h 64 (.pointer (some ⟨S, 0, none⟩)) st t2 r2 d2 l2 fs2 HR2.out HSH2.out S2 777 u (gauge_keep HG.out hu).cell (gauge_keep HG.out hu).map ((HS2.out.below (HW.out.trans (hu.mono hwz))).up (Nat.le_trans hwz hu.size)))
          unfold CargOk at HCR
          go_upto_region 22 with (first
            | (go_at_call 43; (with_reducible refine (HCP.out).mono ?_); rintro e b1 ⟨g2, h2, rfl, hG2, hg2, hh2, hgh2, hb5⟩; have HR1 := Lib.hid hb5; have HC1 := Lib.hid hG2; clear hb5 hG2)
            | (go_at_call 44; (with_reducible refine (HCR.out _ HR1.out).mono ?_); rintro e b2 ⟨g3, h3, rfl, hG3, hg3, hh3, hgh3, hb5⟩; have hbk := HR1.out.trans (hb5.mono HR1.out.size); have HR2' := Lib.hid hbk; have HC2' := Lib.hid (gauge_keep HC1.out hb5); have HK2 := Lib.hid hG3; clear hb5 hbk hG3))
          have hr2 := HR2'.out.size
          have HB2 := Lib.hid (HW.out.trans (HR2'.out.mono hwz))
          have HRC := Lib.hid (refcarry_c zs (by omega) Az zs.length cz t2 r2 d2 A2 l2.length ca2 B2 mb2 cb2 l2 HR2.out.right HSH2.out hl702.1 777 b2 (HIU2.out b2 HB2.out) (rows_keep HZ.out HR2'.out))
          unfold RowsOk at HRC
          rw [HOLD.out] at HRC
          have k0 := (HB2.out.block yb hyS).trans KY.out
          have e0 := cells_at k0 0 (.int .i64 t2) rfl; have e1 := cells_at k0 1 (.int .i64 r2) rfl; have e2 := cells_at k0 2 (.int .i64 d2) rfl; have e3 := cells_at k0 3 (.slice A2 l2.length ca2) rfl; have e4 := cells_at k0 4 (.slice B2 mb2 cb2) rfl
          have HSM1 := Lib.hid (fun (u : World) (hu : Below b2.heap.size b2 u) (Zq : Option Addr) (zq : Nat) (hz : HoldsG u.heap.size u (.slice Zq (rowsC l2 st 777 l2.length).length zq) (rowsC l2 st 777 l2.length)) => same_c t2 r2 d2 l2 fs2 HR2.out g3 h3 S2 wS.heap.size (stC l2 st 777) (rowsC l2 st 777 l2.length) (Agree.carry HR2.out st 777) Zq _ zq 777 u (Nat.le_trans HB2.out.size hu.size) (HS2.out.below (HB2.out.trans (hu.mono HB2.out.size))) (gauge_keep HK2.out hu) hz)
          have HSM2 := Lib.hid (fun (u : World) (hu : Below b2.heap.size b2 u) => same_c t r d l fs HR.out g2 h2 S wS.heap.size st zs HAG.out Az zs.length cz 777 u (Nat.le_trans HB2.out.size hu.size) (HS1.out.below (HB2.out.trans (hu.mono HB2.out.size))) (gauge_keep HC2'.out hu) (rows_keep (rows_keep HZ.out HR2'.out) hu))
          generalize rowsC l2 st 777 l2.length = zk at *
          clear k0 HCP HCR
          go_upto_region 24 with (first
            | (go_at_call 45; (with_reducible refine (HRC.out).mono ?_); rintro e b3 ⟨A9, c9, rfl, hr9, hb5⟩; have HB3 := Lib.hid hb5; have HSQ := Lib.hid (HSM1.out b3 hb5 A9 c9 hr9); clear hr9 hb5)
            | (go_at_call 30; (with_reducible refine (HSQ.out).mono ?_); rintro e b4 ⟨rfl, hb5⟩; have hbk := HB3.out.trans (hb5.mono HB3.out.size); have HB4 := Lib.hid hbk; clear hb5 hbk)
            | (go_at_call 30; (with_reducible refine (HSM2.out _ HB4.out).mono ?_); rintro e b5 ⟨rfl, hb5⟩; have hbk := HB4.out.trans (hb5.mono HB4.out.size); have HB5 := Lib.hid hbk; clear hb5 hbk))
          clear e0 e1 e2 e3 e4 HRC HSM1 HSM2 HSQ HB3 HB4
          have hb25 := HB5.out.size
          have HR5 := Lib.hid (HR2'.out.trans (HB5.out.mono hr2))
          have HBS5 := Lib.hid (HW.out.trans (HR5.out.mono hwz))
          have HG5 := Lib.hid (gauge_keep HG.out HR5.out)
          have HZ5 := Lib.hid (rows_keep HZ.out HR5.out)
          have HL5 := Lib.hid (sl_keep HSR.out HR5.out)
          have HC5 := Lib.hid (gauge_keep HC2'.out HB5.out)
          have hhl : h < wr.heap.size := HG.out.map.lt
          have hhne : h ≠ h2 := by omega
          have hgS2 : wS.heap.size ≤ g2 := Nat.le_trans hwz hg2
          have hhS2 : wS.heap.size ≤ h2 := Nat.le_trans hwz hh2
          obtain ⟨y, hy⟩ : ∃ y, ls[0]? = some y := ⟨_, List.getElem?_eq_getElem (by omega)⟩
          obtain ⟨a, u, rfl, hab, hu, cy⟩ := HL5.out.cell1 (k := 0) (by omega)
          unfold St.I at hu
          rw [List.getElem?_map, hy] at hu
          obtain rfl : Value.int .i64 y = u := by injection hu
          obtain ⟨hyl, hyw⟩ := HLF.out y (List.mem_of_getElem? hy)
          have hl0 : (0 : Int) < (ls.length : Int) := by omega
          have cy' : b5.cell? a = some (.int .i64 y) := by rw [Addr.add_zero'] at cy; exact cy
          clear hu hy
          have HSN := Lib.hid (gsent_c t r d l fs HR.out HSH.out g2 h2 S wS.heap.size st y 100 800 hyw hyl b5 HIN.out HBS5.out.size hgS2 hhS2 hgh2 (HS1.out.below HBS5.out) HC5.out)
          unfold SentOk at HSN
          go_upto_region 25 with (go_at_call 22; (with_reducible refine (HSN.out).mono ?_); rintro e b6 ⟨rfl, hG6, hg6⟩; have HZ6 := Lib.hid (grown_keep (z := 4) (cells := G.cells) (fun x => rfl) (by decide) HZ5.out HC5.out.map hg6); have HG6 : Hid (GaugeAt b6 g h S st) := Lib.hid ⟨other_map hg6 HC5.out.map HG5.out.cell, HG5.out.map.grown hg6 (fun e => hhne (by injection e with e; exact e.symm))⟩; have HB6 := Lib.hid (HBS5.out.trans (below_of_gr hg6 HBS5.out.size hhS2)); clear hG6 hg6)
          clear cy cy' HSN HG HZ HSR HG5 HZ5 HL5 HC5 HC2' HK2 HC1 HR1 HR2' HR5 HBS5 HB5 HB2
          have hb6s := HB6.out.size
          have HB6U := Lib.hid (fun (u : World) (hu : Below b6.heap.size b6 u) => HB6.out.trans (hu.mono hb6s))
          have HT1 := Lib.hid (fun (u : World) (hu : Below b6.heap.size b6 u) => same_c t r d l fs HR.out g h S wS.heap.size st zs HAG.out Az zs.length cz 900 u (Nat.le_trans hb6s hu.size) (HS1.out.below (HB6U.out u hu)) (gauge_keep HG6.out hu) (rows_keep HZ6.out hu))
          have HT2 := Lib.hid (fun (u : World) (hu : Below b6.heap.size b6 u) => carryg_c g h 64 (.pointer (some ⟨S, 0, none⟩)) st t r d l fs HR.out HSH.out S 5 u (gauge_keep HG6.out hu).cell (gauge_keep HG6.out hu).map ((HS1.out.below (HB6U.out u hu)).up (Nat.le_trans hb6s hu.size)))
          have HT3 := Lib.hid (fun (u : World) (hu : Below b6.heap.size b6 u) => refcarry_c zs (by omega) Az zs.length cz t r d A l.length ca B mb cb l HR.out.right HSH.out hl70.1 5 u (HIU.out u (HB6U.out u hu)) (rows_keep HZ6.out hu))
          have HT4 := Lib.hid (fun (u : World) (hu : Below b6.heap.size b6 u) (g4 h4 : Nat) (hG4 : GaugeAt u g4 h4 S (stC l st 5)) (Zq : Option Addr) (zq : Nat) (hz : HoldsG u.heap.size u (.slice Zq (rowsC l st 5 l.length).length zq) (rowsC l st 5 l.length)) => same_c t r d l fs HR.out g4 h4 S wS.heap.size (stC l st 5) (rowsC l st 5 l.length) (Agree.carry HR.out st 5) Zq _ zq 900 u (Nat.le_trans hb6s hu.size) (HS1.out.below (HB6U.out u hu)) hG4 hz)
          unfold CargOk at HT2
          unfold RowsOk at HT3
          rw [HOLD.out] at HT3
          generalize rowsC l st 5 l.length = zq5 at *
          have k0 := (HB6.out.block xb hxS).trans KX.out
          have c0 := cells_at k0 0 (.int .i64 t) rfl; have c1 := cells_at k0 1 (.int .i64 r) rfl; have c2 := cells_at k0 2 (.int .i64 d) rfl; have c3 := cells_at k0 3 (.slice A l.length ca) rfl; have c4 := cells_at k0 4 (.slice B mb cb) rfl
          have hx6 : xb < b6.heap.size := Nat.lt_of_lt_of_le hxS hb6s
          have HSB : Hid (∀ q, (q = xb) → q < b6.heap.size) := Lib.hid (fun q hq => by omega)
          have HD := Lib.hid ((Below.refl b6.heap.size b6).drew)
          clear k0
          refine Lx.wp_region_Y 14 (fun w' => ∃ z, w' = Lx.kept (fun q => q = xb) b6.drew z) [2, 6, 9, 10, 13] (by kernel_rfl) (by kernel_rfl) (Lx.kept_of (Lx.Keeps.refl _ _)) ?_
          simp only [List.take_succ_cons, List.take_zero, List.drop_succ_cons, List.drop_zero]
          repeat (refine Lx.wpX_step (fun K hK => ?_); first | (refine Lx.opX_free (by rfl) (by rfl) (by rfl) ?_; go_big_quiet_op; refine hK _ _ ?_; clear hK K) | (refine Lx.opX_nil (by rfl) (by rfl) (by rfl) (by rfl) ?_; refine hK _ _ ?_; clear hK K; simp only [Act.put, List.setIfInBounds_toArray, List.set_cons_succ, List.set_cons_zero]) | (refine Lx.opX_skip (by rfl) ?_; refine hK _ _ ?_; clear hK K; simp only [Act.put, List.setIfInBounds_toArray, List.set_cons_succ, List.set_cons_zero]))
          refine Lx.wpX_step (fun K hK => ?_)
          refine Lx.opX_law (by rfl) (by rfl) ?_
          go_wp2_with (go_at_call 30; (with_reducible refine (HT1.out _ HD.out).mono ?_); rintro e f1 ⟨rfl, hb5⟩; have hbk := HD.out.trans (hb5.mono HD.out.size); have G1 := Lib.hid hbk; clear hb5 hbk)
          refine Lx.nq_mk (Lx.kept_of (fun y hy => G1.out.block y (HSB.out y hy))) (hK _ _ ?_)
          clear hK K
          repeat (refine Lx.wpX_step (fun K hK => ?_); first | (refine Lx.opX_free (by rfl) (by rfl) (by rfl) ?_; go_big_quiet_op; refine hK _ _ ?_; clear hK K) | (refine Lx.opX_nil (by rfl) (by rfl) (by rfl) (by rfl) ?_; refine hK _ _ ?_; clear hK K; simp only [Act.put, List.setIfInBounds_toArray, List.set_cons_succ, List.set_cons_zero]) | (refine Lx.opX_skip (by rfl) ?_; refine hK _ _ ?_; clear hK K; simp only [Act.put, List.setIfInBounds_toArray, List.set_cons_succ, List.set_cons_zero]))
          refine Lx.wpX_step (fun K hK => ?_)
          refine Lx.opX_law (by rfl) (by rfl) ?_
          go_wp2_with (go_at_call 44; (with_reducible refine (HT2.out _ G1.out).mono ?_); rintro e f2 ⟨g4, h4, rfl, hG4, _, _, _, hb5⟩; have hbk := G1.out.trans (hb5.mono G1.out.size); have G2 := Lib.hid hbk; have HQ2 := Lib.hid hG4; clear hb5 hbk hG4)
          refine Lx.nq_mk (Lx.kept_of (fun y hy => G2.out.block y (HSB.out y hy))) (hK _ _ ?_)
          clear hK K
          repeat (refine Lx.wpX_step (fun K hK => ?_); first | (refine Lx.opX_free (by rfl) (by rfl) (by rfl) ?_; go_big_quiet_op; refine hK _ _ ?_; clear hK K) | (refine Lx.opX_nil (by rfl) (by rfl) (by rfl) (by rfl) ?_; refine hK _ _ ?_; clear hK K; simp only [Act.put, List.setIfInBounds_toArray, List.set_cons_succ, List.set_cons_zero]) | (refine Lx.opX_skip (by rfl) ?_; refine hK _ _ ?_; clear hK K; simp only [Act.put, List.setIfInBounds_toArray, List.set_cons_succ, List.set_cons_zero]))
          refine Lx.wpX_step (fun K hK => ?_)
          refine Lx.opX_law (by rfl) (by rfl) ?_
          go_wp2_with (go_at_call 45; (with_reducible refine (HT3.out _ G2.out).mono ?_); rintro e f3 ⟨A9, c9, rfl, hr9, hb5⟩; have hbk := G2.out.trans (hb5.mono G2.out.size); have G3 := Lib.hid hbk; have HQ3 := Lib.hid (gauge_keep HQ2.out hb5); have HQZ := Lib.hid hr9; clear hb5 hbk hr9)
          refine Lx.nq_mk (Lx.kept_of (fun y hy => G3.out.block y (HSB.out y hy))) (hK _ _ ?_)
          clear hK K
          repeat (refine Lx.wpX_step (fun K hK => ?_); first | (refine Lx.opX_free (by rfl) (by rfl) (by rfl) ?_; go_big_quiet_op; refine hK _ _ ?_; clear hK K) | (refine Lx.opX_nil (by rfl) (by rfl) (by rfl) (by rfl) ?_; refine hK _ _ ?_; clear hK K; simp only [Act.put, List.setIfInBounds_toArray, List.set_cons_succ, List.set_cons_zero]) | (refine Lx.opX_skip (by rfl) ?_; refine hK _ _ ?_; clear hK K; simp only [Act.put, List.setIfInBounds_toArray, List.set_cons_succ, List.set_cons_zero]))
          refine Lx.wpX_step (fun K hK => ?_)
          refine Lx.opX_law (by rfl) (by rfl) ?_
          go_wp2_with (go_at_call 30; (with_reducible refine (HT4.out _ G3.out g4 h4 HQ3.out A9 c9 HQZ.out).mono ?_); rintro e f4 ⟨rfl, hb5⟩; have hbk := G3.out.trans (hb5.mono G3.out.size); have G4 := Lib.hid hbk; clear hb5 hbk)
          refine Lx.nq_mk (Lx.kept_of (fun y hy => G4.out.block y (HSB.out y hy))) (hK _ _ ?_)
          clear hK K
          repeat (refine Lx.wpX_step (fun K hK => ?_); first | (refine Lx.opX_free (by rfl) (by rfl) (by rfl) ?_; go_big_quiet_op; refine hK _ _ ?_; clear hK K) | (refine Lx.opX_nil (by rfl) (by rfl) (by rfl) (by rfl) ?_; refine hK _ _ ?_; clear hK K; simp only [Act.put, List.setIfInBounds_toArray, List.set_cons_succ, List.set_cons_zero]) | (refine Lx.opX_skip (by rfl) ?_; refine hK _ _ ?_; clear hK K; simp only [Act.put, List.setIfInBounds_toArray, List.set_cons_succ, List.set_cons_zero]))
          refine Lx.wpX_step (fun K hK => ?_)
          refine Lx.opX_law (by rfl) (by rfl) ?_
          go_wp2_with (go_at_call 17; (with_reducible refine (HL.out _).mono ?_); rintro e f5 ⟨rfl, hb5⟩; have hbk := G4.out.trans (hb5.mono G4.out.size); have G5 := Lib.hid hbk; clear hb5 hbk)
          refine Lx.nq_mk (Lx.kept_of (fun y hy => G5.out.block y (HSB.out y hy))) (hK _ _ ?_)
          clear hK K
          repeat (refine Lx.wpX_step (fun K hK => ?_); first | (refine Lx.opX_free (by rfl) (by rfl) (by rfl) ?_; go_big_quiet_op; refine hK _ _ ?_; clear hK K) | (refine Lx.opX_nil (by rfl) (by rfl) (by rfl) (by rfl) ?_; refine hK _ _ ?_; clear hK K; simp only [Act.put, List.setIfInBounds_toArray, List.set_cons_succ, List.set_cons_zero]) | (refine Lx.opX_skip (by rfl) ?_; refine hK _ _ ?_; clear hK K; simp only [Act.put, List.setIfInBounds_toArray, List.set_cons_succ, List.set_cons_zero]))
          refine Lx.wpX_nil ?_
          go_wp2_with fail
          go_ret
          exact ⟨rfl, HWS.out.trans ((HB6U.out _ G5.out).mono hwS)⟩
end Go.Proofs.YtpchhfhmopmagaaGreat.Rg
