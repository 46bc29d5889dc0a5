/- The document's averages: refewma, refidle. The document's idle states: refewma.Step, refidle.within, power, New, Sent, Over. The document's idle states: New, Sent, Over. The document's gauges: rows; Of, Over, Wake. The document's gauges: Over, Wake, Overs. Overs: the document's, the gauge's. -/
import Derived.Test.YtpchhfhmopmagaaGreatIdM
import Derived.Test.YtpchhfhmopmagaaGreatFi2
import Derived.Test.YtpchhfhmopmagaaGreatGaM
import Derived.Test.YtpchhfhmopmagaaGreatRfM
set_option linter.unusedVariables false
set_option linter.unusedSimpArgs false
/- The document's averages: refewma, refidle. -/
namespace Go.Proofs.YtpchhfhmopmagaaGreat.Id
open Go.RowKit Go.Maps Wd Li St Sr Go.Proofs.YtpchhfhmopmagaaGreat.Mp Go.Proofs.YtpchhfhmopmagaaGreat.Cl Go.Proofs.YtpchhfhmopmagaaGreat.So Go.Proofs.YtpchhfhmopmagaaGreat.Tr Go.Proofs.YtpchhfhmopmagaaGreat.Sw
attribute [local go_sem] run_store_float Lx.opX Rel.oneOk
attribute [local irreducible] Lx.wpX

set_option maxRecDepth 20000 in
theorem refadd_c (a b : Int) (w : World) : Calls Tryz.prog 150 #[.int .i64 a, .int .i64 b] w fun e w' => e = .returned (.int .i64 (addS a b)) ∧ w = w' := by
  have h1 := hold_ge a; have h2 := hold_le a; have h3 := hold_ge b; have h4 := hold_le b
  unfold addS
  go_enter Tryz.func150, Tryz.ntmps150
  go_wp2_with (go_at_call 152; (with_reducible refine (refhold_c _ _).mono ?_); rintro e w' ⟨rfl, rfl⟩)
  go_ret
  exact ⟨rfl, rfl⟩
theorem half_odd {v : Int} (h : v < 0) (ho : Int.tmod v 2 ≠ 0) : Int.tdiv (v - 1) 2 = v / 2 := by
  rw [Int.tmod_eq_emod] at ho
  rw [Int.tdiv_eq_ediv]
  have hs : Int.sign 2 = 1 := rfl
  rw [hs]
  split at ho
  · split <;> omega
  · split <;> omega
theorem half_even {v : Int} (h : ¬ (v < 0 ∧ Int.tmod v 2 ≠ 0)) : Int.tdiv v 2 = v / 2 := by
  rw [Int.tmod_eq_emod] at h
  rw [Int.tdiv_eq_ediv]
  have hs : Int.sign 2 = 1 := rfl
  rw [hs]
  split
  · omega
  · rename_i hn
    rw [if_neg hn] at h
    omega
theorem halves {x : Int} (k : Nat) : x / 2 ^ k / 2 = x / 2 ^ (k + 1) := by
  have hp : (0 : Int) < 2 ^ k := Int.pow_pos (by decide)
  rw [Int.ediv_ediv, if_neg (fun h => by omega), Int.sub_zero, Int.pow_succ]
theorem half_b {x : Int} (k : Nat) (h : -1152921504606846976 ≤ x ∧ x ≤ 1152921504606846976) : -1152921504606846976 ≤ x / 2 ^ k ∧ x / 2 ^ k ≤ 1152921504606846976 := by
  induction k with
  | zero => simpa using h
  | succ k ih => rw [← halves]; omega
set_option maxRecDepth 20000 in
set_option maxHeartbeats 1000000 in
theorem reffloor_c (x n : Int) (hx : -1152921504606846976 ≤ x ∧ x ≤ 1152921504606846976) (w : World) : Calls Tryz.prog 210 #[.int .i64 x, .int .i64 n] w fun e w' => e = .returned (.int .i64 (floorS x n)) ∧ w = w' := by
  by_cases h1 : n < 0
  · have hf := Lib.hid (show floorS x n = 0 from if_pos (.inl h1))
    go_enter Tryz.func210, Tryz.ntmps210
    go_wp2
    go_ret
    exact ⟨by rw [hf.out]; rfl, rfl⟩
  by_cases h2 : 62 < n
  · have hf := Lib.hid (show floorS x n = 0 from if_pos (.inr h2))
    go_enter Tryz.func210, Tryz.ntmps210
    go_wp2
    go_ret
    exact ⟨by rw [hf.out]; rfl, rfl⟩
  have hf := Lib.hid (show floorS x n = x / 2 ^ n.toNat from if_neg (by omega))
  obtain ⟨m, hm⟩ : ∃ m : Nat, n = (m : Int) := ⟨n.toNat, by omega⟩
  subst hm
  rw [Int.toNat_natCast] at hf
  have HX := Lib.hid hx
  clear hx
  go_enter Tryz.func210, Tryz.ntmps210
  go_wp2_with fail
  go_loopg [0, 5] m (fun kx s0 s5 wr => ∃ k : Nat, s0 = .int .i64 (x / 2 ^ k) ∧ s5 = .int .i64 (k : Int) ∧ k ≤ m ∧ m - k ≤ kx ∧ w = wr)
  case atStart => exact ⟨0, by simp, rfl, by omega, by omega, rfl⟩
  case round =>
    obtain ⟨k, rfl, rfl, hk, hkx, rfl⟩ := hrel
    have hb := half_b k HX.out
    have hh := Lib.hid (halves (x := x) k)
    by_cases hlt : k < m
    · have hltz : (k : Int) < (m : Int) := by omega
      generalize hv : x / 2 ^ k = v at *
      by_cases hn : v < 0
      · by_cases ho : Int.tmod v 2 = 0
        · have hq := half_even (v := v) (fun h => h.2 ho)
          have HQ := Lib.hid hq
          have hob : (Int.tmod v 2 != 0) = false := by rw [bne_eq_false_iff_eq]; exact ho
          clear hq hv
          go_wp2_with fail
          go_roundg (m - (k + 1))
          case measure => omega
          case rel => exact ⟨k + 1, by rw [← hh.out, ← HQ.out], by go_num, by omega, by omega, rfl⟩
        · have hq := half_odd hn ho
          have HQ := Lib.hid hq
          have hob : (Int.tmod v 2 != 0) = true := by rw [bne_iff_ne]; exact ho
          clear hq hv
          go_wp2_with fail
          go_roundg (m - (k + 1))
          case measure => omega
          case rel => exact ⟨k + 1, by rw [← hh.out, ← HQ.out], by go_num, by omega, by omega, rfl⟩
      · have hq := half_even (v := v) (fun h => hn h.1)
        have HQ := Lib.hid hq
        clear hq hv
        go_wp2_with fail
        go_roundg (m - (k + 1))
        case measure => omega
        case rel => exact ⟨k + 1, by rw [← hh.out, ← HQ.out], by go_num, by omega, by omega, rfl⟩
    · have hltz : ¬ (k : Int) < (m : Int) := by omega
      obtain rfl : k = m := by omega
      go_wp2_with fail
      go_ret
      exact ⟨by rw [hf.out]; rfl, rfl⟩
end Go.Proofs.YtpchhfhmopmagaaGreat.Id

/- The document's idle states: refewma.Step, refidle.within, power, New, Sent, Over. -/
namespace Go.Proofs.YtpchhfhmopmagaaGreat.Id
open Go.RowKit Go.Maps Wd Li St Sr Go.Proofs.YtpchhfhmopmagaaGreat.Mp Go.Proofs.YtpchhfhmopmagaaGreat.Cl Go.Proofs.YtpchhfhmopmagaaGreat.So Go.Proofs.YtpchhfhmopmagaaGreat.Tr Go.Proofs.YtpchhfhmopmagaaGreat.Sw
attribute [local go_sem] run_store_float Lx.opX Rel.oneOk
attribute [local irreducible] Lx.wpX

set_option maxRecDepth 20000 in
theorem refstep_c (avg x n : Int) (w : World) : Calls Tryz.prog 149 #[.int .i64 avg, .int .i64 x, .int .i64 n] w fun e w' => e = .returned (.int .i64 (stepS avg x n)) ∧ w = w' := by
  by_cases h : 0 ≤ n ∧ n ≤ 16
  · rw [step_t (weight_t h)]
    have h1 : ¬ n < 0 := by omega
    have h2 : ¬ 16 < n := by omega
    have HF := Lib.hid (reffloor_c (subS x avg) n ⟨hold_ge _, hold_le _⟩)
    clear h
    go_enter Tryz.func149, Tryz.ntmps149
    go_wp2_with (first
      | (go_at_call 147; (with_reducible refine (refsub_c _ _ _).mono ?_); rintro e w' ⟨rfl, rfl⟩)
      | (go_at_call 210; (with_reducible refine (HF.out _).mono ?_); rintro e w' ⟨rfl, rfl⟩)
      | (go_at_call 150; (with_reducible refine (refadd_c _ _ _).mono ?_); rintro e w' ⟨rfl, rfl⟩))
    go_ret
    exact ⟨rfl, rfl⟩
  · rw [step_f (weight_f h)]
    by_cases h1 : n < 0
    · clear h
      go_enter Tryz.func149, Tryz.ntmps149
      go_wp2_with (go_at_call 152; (with_reducible refine (refhold_c _ _).mono ?_); rintro e w' ⟨rfl, rfl⟩)
      go_ret
      exact ⟨rfl, rfl⟩
    · have h2 : 16 < n := by omega
      clear h
      go_enter Tryz.func149, Tryz.ntmps149
      go_wp2_with (go_at_call 152; (with_reducible refine (refhold_c _ _).mono ?_); rintro e w' ⟨rfl, rfl⟩)
      go_ret
      exact ⟨rfl, rfl⟩
set_option maxRecDepth 20000 in
theorem within_c (a : Int) (c : Cls) (hmm : c.minIdle ≤ c.maxIdle) (w : World) : Calls Tryz.prog 148 #[.int .i64 a, c.agg] w fun e w' => e = .returned (.int .i64 (heldI a c)) ∧ Below w.heap.size w w' := by
  have HB := Lib.hid ((Below.refl w.heap.size w).alloc (Nat.le_refl _) (.cells #[.int .i64 c.id, .int .i64 c.parent, .float .f64 c.share, .int .i64 c.prio, .int .i64 c.quantum, .int .i64 c.limit, .int .i64 c.weight, .int .i64 c.minIdle, .int .i64 c.maxIdle, .bool c.bounded, .bool c.isolated] 84))
  unfold Cls.agg
  by_cases h1 : a < c.minIdle
  · have HR := Lib.hid (show heldI a c = c.minIdle by unfold heldI; omega)
    clear hmm
    go_enter Tryz.func148, Tryz.ntmps148
    go_wp2
    go_ret
    exact ⟨by rw [HR.out]; rfl, HB.out⟩
  · by_cases h2 : c.maxIdle < a
    · have HR := Lib.hid (show heldI a c = c.maxIdle by unfold heldI; omega)
      clear hmm
      go_enter Tryz.func148, Tryz.ntmps148
      go_wp2
      go_ret
      exact ⟨by rw [HR.out]; rfl, HB.out⟩
    · have HR := Lib.hid (show heldI a c = a by unfold heldI; omega)
      clear hmm
      go_enter Tryz.func148, Tryz.ntmps148
      go_wp2
      go_ret
      exact ⟨by rw [HR.out]; rfl, HB.out⟩
set_option maxRecDepth 20000 in
theorem power_c (n : Int) (hn : 0 ≤ n ∧ n ≤ 16) (w : World) : Calls Tryz.prog 151 #[.int .i64 n] w fun e w' => e = .returned (.int .i64 (powS n)) ∧ w = w' := by
  obtain ⟨m, hm⟩ : ∃ m : Nat, n = (m : Int) := ⟨n.toNat, by omega⟩
  subst hm
  have hm16 : m ≤ 16 := by omega
  have HP : Hid (∀ k : Nat, k ≤ 16 → (2 : Int) * powS (k : Int) = powS ((k + 1 : Nat) : Int) ∧ 1 ≤ powS (k : Int) ∧ powS (k : Int) ≤ 65536) := Lib.hid (fun k hk => ⟨by unfold powS; rw [Int.toNat_natCast, Int.toNat_natCast, Nat.pow_succ]; push_cast; omega, powS_b ⟨by omega, by omega⟩⟩)
  clear hn
  go_enter Tryz.func151, Tryz.ntmps151
  go_wp2_with fail
  go_loopg [3, 4] m (fun kx s3 s4 wr => ∃ k : Nat, s3 = .int .i64 (powS (k : Int)) ∧ s4 = .int .i64 (k : Int) ∧ k ≤ m ∧ m - k ≤ kx ∧ w = wr)
  case atStart => exact ⟨0, rfl, rfl, by omega, by omega, rfl⟩
  case round =>
    obtain ⟨k, rfl, rfl, hk, hkx, rfl⟩ := hrel
    obtain ⟨p1, p2, p3⟩ := HP.out k (by omega)
    by_cases hlt : k < m
    · have hltz : (k : Int) < (m : Int) := by omega
      have P1 := Lib.hid p1
      generalize powS (k : Int) = p at *
      clear p1
      go_wp2_with fail
      go_roundg (m - (k + 1))
      case measure => omega
      case rel => exact ⟨k + 1, by rw [← P1.out], by go_num, by omega, by omega, rfl⟩
    · have hltz : ¬ (k : Int) < (m : Int) := by omega
      obtain rfl : k = m := by omega
      go_wp2_with fail
      go_ret
      exact ⟨rfl, rfl⟩
end Go.Proofs.YtpchhfhmopmagaaGreat.Id

/- The document's idle states: New, Sent, Over. -/
namespace Go.Proofs.YtpchhfhmopmagaaGreat.Id
open Go.RowKit Go.Maps Wd Li St Sr Go.Proofs.YtpchhfhmopmagaaGreat.Mp Go.Proofs.YtpchhfhmopmagaaGreat.Cl Go.Proofs.YtpchhfhmopmagaaGreat.So Go.Proofs.YtpchhfhmopmagaaGreat.Tr Go.Proofs.YtpchhfhmopmagaaGreat.Sw
attribute [local go_sem] run_store_float Lx.opX Rel.oneOk
attribute [local irreducible] Lx.wpX

theorem right_idle {c : Cls} (h : rightS c = 0) : (0 ≤ c.weight ∧ c.weight ≤ 16) ∧ (-1099511627776 ≤ c.minIdle ∧ c.minIdle ≤ 0) ∧ (0 ≤ c.maxIdle ∧ c.maxIdle ≤ 1099511627776) := by
  unfold rightS at h
  split at h
  · cases h
  · split at h
    · cases h
    · split at h
      · rename_i hf; exact absurd h hf
      · split at h
        · cases h
        · split at h
          · cases h
          · split at h
            · cases h
            · omega
set_option maxRecDepth 20000 in
set_option maxHeartbeats 1000000 in
theorem refnew_c (c : Cls) (hs : c.share < 18446744073709551616) (hr : rightS c = 0) (now : Int) (w : World) :
    Calls Tryz.prog 93 #[c.agg, .int .i64 now] w fun e w' => e = .returned (newI c now).agg ∧ Below w.heap.size w w' := by
  have HR := Lib.hid (refright_any c hs)
  rw [hr] at HR
  unfold Ret1 Cls.agg at HR
  unfold newI S3.agg Cls.agg
  have h0 : ((w.alloc (.cells #[.int .i64 c.id, .int .i64 c.parent, .float .f64 c.share, .int .i64 c.prio, .int .i64 c.quantum, .int .i64 c.limit, .int .i64 c.weight, .int .i64 c.minIdle, .int .i64 c.maxIdle, .bool c.bounded, .bool c.isolated] 84)).alloc (.cells #[.int .i64 0, .int .i64 0, .int .i64 0] 138)).heap[w.heap.size]? = some (.cells #[.int .i64 c.id, .int .i64 c.parent, .float .f64 c.share, .int .i64 c.prio, .int .i64 c.quantum, .int .i64 c.limit, .int .i64 c.weight, .int .i64 c.minIdle, .int .i64 c.maxIdle, .bool c.bounded, .bool c.isolated] 84 (0, 0)) := (Below.heap_alloc _ _ _ (by simp)).trans (heap_alloc_new _ _)
  have h1 : ((w.alloc (.cells #[.int .i64 c.id, .int .i64 c.parent, .float .f64 c.share, .int .i64 c.prio, .int .i64 c.quantum, .int .i64 c.limit, .int .i64 c.weight, .int .i64 c.minIdle, .int .i64 c.maxIdle, .bool c.bounded, .bool c.isolated] 84)).alloc (.cells #[.int .i64 0, .int .i64 0, .int .i64 0] 138)).heap[w.heap.size + 1]? = some (.cells #[.int .i64 0, .int .i64 0, .int .i64 0] 138 (0, 0)) := by
    have := heap_alloc_new (w.alloc (.cells #[.int .i64 c.id, .int .i64 c.parent, .float .f64 c.share, .int .i64 c.prio, .int .i64 c.quantum, .int .i64 c.limit, .int .i64 c.weight, .int .i64 c.minIdle, .int .i64 c.maxIdle, .bool c.bounded, .bool c.isolated] 84)) (.cells #[.int .i64 0, .int .i64 0, .int .i64 0] 138)
    simpa using this
  have hb0 : Below w.heap.size w ((w.alloc (.cells #[.int .i64 c.id, .int .i64 c.parent, .float .f64 c.share, .int .i64 c.prio, .int .i64 c.quantum, .int .i64 c.limit, .int .i64 c.weight, .int .i64 c.minIdle, .int .i64 c.maxIdle, .bool c.bounded, .bool c.isolated] 84)).alloc (.cells #[.int .i64 0, .int .i64 0, .int .i64 0] 138)) := ((Below.refl _ w).alloc (Nat.le_refl _) _).alloc (by simp) _
  have hz0 : ((w.alloc (.cells #[.int .i64 c.id, .int .i64 c.parent, .float .f64 c.share, .int .i64 c.prio, .int .i64 c.quantum, .int .i64 c.limit, .int .i64 c.weight, .int .i64 c.minIdle, .int .i64 c.maxIdle, .bool c.bounded, .bool c.isolated] 84)).alloc (.cells #[.int .i64 0, .int .i64 0, .int .i64 0] 138)).heap.size = w.heap.size + 2 := by simp
  have H0 := Lib.hid h0; have H1 := Lib.hid h1; have HB0 := Lib.hid hb0; have HZ0 := Lib.hid hz0
  clear h0 h1 hb0 hz0
  go_enter Tryz.func93, Tryz.ntmps93
  go_upto_region 1 with fail
  generalize World.alloc (World.alloc w _) _ = U at *
  have hz := HZ0.out
  have f0 := cells_at H0.out 0 (.int .i64 c.id) rfl; have f1 := cells_at H0.out 1 (.int .i64 c.parent) rfl; have f2 := cells_at H0.out 2 (.float .f64 c.share) rfl; have f3 := cells_at H0.out 3 (.int .i64 c.prio) rfl; have f4 := cells_at H0.out 4 (.int .i64 c.quantum) rfl; have f5 := cells_at H0.out 5 (.int .i64 c.limit) rfl; have f6 := cells_at H0.out 6 (.int .i64 c.weight) rfl; have f7 := cells_at H0.out 7 (.int .i64 c.minIdle) rfl; have f8 := cells_at H0.out 8 (.int .i64 c.maxIdle) rfl; have f9 := cells_at H0.out 9 (.bool c.bounded) rfl; have f10 := cells_at H0.out 10 (.bool c.isolated) rfl
  go_upto_region 3 with (go_at_call 146; (with_reducible refine (HR.out _).mono ?_); rintro e w1 ⟨rfl, hb⟩; have HB := Lib.hid hb; clear hb)
  have hw1 := HB.out.size
  have K0 := Lib.hid ((HB.out.block w.heap.size (by omega)).trans H0.out)
  have K1 := Lib.hid ((HB.out.block (w.heap.size + 1) (by omega)).trans H1.out)
  have HBW := Lib.hid (HB0.out.trans (HB.out.mono HB0.out.size))
  have hw2 : w.heap.size + 1 < w1.heap.size := by omega
  clear f0 f1 f2 f3 f4 f5 f6 f7 f8 f9 f10 H0 H1 HB0 HZ0 HB hz hw1 HR
  have m8 := cells_at K0.out 8 (.int .i64 c.maxIdle) rfl
  refine Lx.wp_region_X 5 (fun w' => ∃ z, w' = Lx.kept (fun q => q = w.heap.size) w1.drew z) (fun i => i == 1) (by kernel_rfl) (by kernel_rfl) (Lx.kept_of (Lx.Keeps.refl _ _)) ?_
  simp only [List.take_succ_cons, List.take_zero, List.drop_succ_cons, List.drop_zero]
  repeat (refine Lx.wpX_step (fun K hK => ?_); first | (refine Lx.opX_free (by rfl) (by rfl) (by rfl) ?_; go_big_quiet_op; refine hK _ _ ?_; clear hK K) | (refine Lx.opX_nil (by rfl) (by rfl) (by rfl) (by rfl) ?_; refine hK _ _ ?_; clear hK K; simp only [Act.put, List.setIfInBounds_toArray, List.set_cons_succ, List.set_cons_zero]))
  refine Lx.wpX_step (fun K hK => ?_)
  refine Lx.opX_law (by rfl) (by rfl) ?_
  go_wp2_with (go_at_call 152; (with_reducible refine (refhold_c _ _).mono ?_); rintro e w' ⟨rfl, rfl⟩)
  refine Lx.nq_mk (Lx.kept_of (Lx.Keeps.refl _ _)) (hK _ _ ?_)
  clear hK K
  repeat (refine Lx.wpX_step (fun K hK => ?_); first | (refine Lx.opX_free (by rfl) (by rfl) (by rfl) ?_; go_big_quiet_op; refine hK _ _ ?_; clear hK K) | (refine Lx.opX_nil (by rfl) (by rfl) (by rfl) (by rfl) ?_; refine hK _ _ ?_; clear hK K; simp only [Act.put, List.setIfInBounds_toArray, List.set_cons_succ, List.set_cons_zero]))
  refine Lx.wpX_nil ?_
  go_wp2_with (first | (refine wpList_store_whole (by rfl) 138 _ _ (by rfl) 3 Tryz.sizeOf138 (w.heap.size + 1) _ _ 138 (by rfl) (by rfl) K1.out (by rfl) (by rfl) (by simp [Value.oneCell']) ?_; intro w6 hb6 hg6; have r0 := cells_at hb6 0 _ rfl; have r1 := cells_at hb6 1 _ rfl; have r2 := cells_at hb6 2 _ rfl; have HG6 := Lib.hid hg6; clear hb6 hg6))
  (try simp only [Exit.inBlock, Exit.then])
  refine bodyPost_ret (v := .agg #[.int .i64 (hold now), .int .i64 c.maxIdle, .int .i64 0]) (by simp [results, Tryz.results93, go_sem, r0, r1, r2]) rfl ?_
  exact ⟨rfl, HBW.out.drew.grown HG6.out HBW.out.size (fun q hq => by injection hq; omega)⟩
set_option maxRecDepth 20000 in
theorem refover_c (s : S3) (now : Int) (w : World) : Calls Tryz.prog 155 #[s.agg, .int .i64 now] w fun e w' => e = .returned (.bool (decide (now < s.u))) ∧ Below w.heap.size w w' := by
  have HB := Lib.hid ((Below.refl w.heap.size w).alloc (Nat.le_refl _) (.cells #[.int .i64 s.l, .int .i64 s.a, .int .i64 s.u] 138))
  unfold S3.agg
  go_enter Tryz.func155, Tryz.ntmps155
  go_wp2
  go_ret
  exact ⟨rfl, HB.out⟩
set_option maxRecDepth 20000 in
set_option maxHeartbeats 2000000 in
theorem refsent_c (s : S3) (c : Cls) (hs : c.share < 18446744073709551616) (hr : rightS c = 0) (time now : Int) (w : World) :
    Calls Tryz.prog 71 #[s.agg, c.agg, .int .i64 time, .int .i64 now] w fun e w' => e = .returned (sentI s c time now).agg ∧ Below w.heap.size w w' := by
  obtain ⟨hw, hmi, hma⟩ := right_idle hr
  have HR := Lib.hid (refright_any c hs)
  rw [hr] at HR
  have hX : sentI s c time now = ⟨hold now, sentA s c time now, if sentA s c time now < 0 then addS now (addS time (awayS (sentA s c time now) c.weight)) else 0⟩ := rfl
  have hA : sentA s c time now = heldI (stepS s.a (subS (subS now s.l) time) c.weight) c := rfl
  have hAb : -1099511627776 ≤ sentA s c time now ∧ sentA s c time now ≤ 1099511627776 := by rw [hA]; unfold heldI; omega
  have HX := Lib.hid hX; have HA := Lib.hid hA
  clear hX hA
  have HH := Lib.hid (fun a u => within_c a c (by omega) u)
  have HPW := Lib.hid (fun u => power_c c.weight hw u)
  have hpb := powS_b hw
  have HWT := Lib.hid (weight_t hw)
  unfold Ret1 at HR
  unfold Cls.agg at HR HH
  generalize sentI s c time now = X at *
  generalize sentA s c time now = A at *
  unfold S3.agg Cls.agg
  obtain ⟨v, hv⟩ : ∃ v, v = subS (subS now s.l) time := ⟨_, rfl⟩
  rw [← hv] at HA
  have HV := Lib.hid hv
  clear hv hmi hma
  have h0 : (((w.alloc (.cells #[.int .i64 s.l, .int .i64 s.a, .int .i64 s.u] 138)).alloc (.cells #[.int .i64 c.id, .int .i64 c.parent, .float .f64 c.share, .int .i64 c.prio, .int .i64 c.quantum, .int .i64 c.limit, .int .i64 c.weight, .int .i64 c.minIdle, .int .i64 c.maxIdle, .bool c.bounded, .bool c.isolated] 84)).alloc (.cells #[.int .i64 0, .int .i64 0, .int .i64 0] 138)).heap[w.heap.size]? = some (.cells #[.int .i64 s.l, .int .i64 s.a, .int .i64 s.u] 138 (0, 0)) := (Below.heap_alloc _ _ _ (by simp; omega)).trans ((Below.heap_alloc _ _ _ (by simp)).trans (heap_alloc_new _ _))
  have h1 : (((w.alloc (.cells #[.int .i64 s.l, .int .i64 s.a, .int .i64 s.u] 138)).alloc (.cells #[.int .i64 c.id, .int .i64 c.parent, .float .f64 c.share, .int .i64 c.prio, .int .i64 c.quantum, .int .i64 c.limit, .int .i64 c.weight, .int .i64 c.minIdle, .int .i64 c.maxIdle, .bool c.bounded, .bool c.isolated] 84)).alloc (.cells #[.int .i64 0, .int .i64 0, .int .i64 0] 138)).heap[w.heap.size + 1]? = some (.cells #[.int .i64 c.id, .int .i64 c.parent, .float .f64 c.share, .int .i64 c.prio, .int .i64 c.quantum, .int .i64 c.limit, .int .i64 c.weight, .int .i64 c.minIdle, .int .i64 c.maxIdle, .bool c.bounded, .bool c.isolated] 84 (0, 0)) := (Below.heap_alloc _ _ _ (by simp)).trans (by have := heap_alloc_new (w.alloc (.cells #[.int .i64 s.l, .int .i64 s.a, .int .i64 s.u] 138)) (.cells #[.int .i64 c.id, .int .i64 c.parent, .float .f64 c.share, .int .i64 c.prio, .int .i64 c.quantum, .int .i64 c.limit, .int .i64 c.weight, .int .i64 c.minIdle, .int .i64 c.maxIdle, .bool c.bounded, .bool c.isolated] 84); simpa using this)
  have h2 : (((w.alloc (.cells #[.int .i64 s.l, .int .i64 s.a, .int .i64 s.u] 138)).alloc (.cells #[.int .i64 c.id, .int .i64 c.parent, .float .f64 c.share, .int .i64 c.prio, .int .i64 c.quantum, .int .i64 c.limit, .int .i64 c.weight, .int .i64 c.minIdle, .int .i64 c.maxIdle, .bool c.bounded, .bool c.isolated] 84)).alloc (.cells #[.int .i64 0, .int .i64 0, .int .i64 0] 138)).heap[w.heap.size + 2]? = some (.cells #[.int .i64 0, .int .i64 0, .int .i64 0] 138 (0, 0)) := by have := heap_alloc_new ((w.alloc (.cells #[.int .i64 s.l, .int .i64 s.a, .int .i64 s.u] 138)).alloc (.cells #[.int .i64 c.id, .int .i64 c.parent, .float .f64 c.share, .int .i64 c.prio, .int .i64 c.quantum, .int .i64 c.limit, .int .i64 c.weight, .int .i64 c.minIdle, .int .i64 c.maxIdle, .bool c.bounded, .bool c.isolated] 84)) (.cells #[.int .i64 0, .int .i64 0, .int .i64 0] 138); simpa using this
  have hb0 : Below w.heap.size w (((w.alloc (.cells #[.int .i64 s.l, .int .i64 s.a, .int .i64 s.u] 138)).alloc (.cells #[.int .i64 c.id, .int .i64 c.parent, .float .f64 c.share, .int .i64 c.prio, .int .i64 c.quantum, .int .i64 c.limit, .int .i64 c.weight, .int .i64 c.minIdle, .int .i64 c.maxIdle, .bool c.bounded, .bool c.isolated] 84)).alloc (.cells #[.int .i64 0, .int .i64 0, .int .i64 0] 138)) := (((Below.refl _ w).alloc (Nat.le_refl _) _).alloc (by simp) _).alloc (by simp; omega) _
  have hz0 : (((w.alloc (.cells #[.int .i64 s.l, .int .i64 s.a, .int .i64 s.u] 138)).alloc (.cells #[.int .i64 c.id, .int .i64 c.parent, .float .f64 c.share, .int .i64 c.prio, .int .i64 c.quantum, .int .i64 c.limit, .int .i64 c.weight, .int .i64 c.minIdle, .int .i64 c.maxIdle, .bool c.bounded, .bool c.isolated] 84)).alloc (.cells #[.int .i64 0, .int .i64 0, .int .i64 0] 138)).heap.size = w.heap.size + 3 := by simp
  have H0 := Lib.hid h0; have H1 := Lib.hid h1; have H2 := Lib.hid h2; have HB0 := Lib.hid hb0; have HZ0 := Lib.hid hz0
  clear h0 h1 h2 hb0 hz0
  go_enter Tryz.func71, Tryz.ntmps71
  go_upto_region 1 with fail
  have e2 : w.heap.size + 1 + 1 = w.heap.size + 2 := rfl
  rw [e2]
  clear e2
  generalize World.alloc (World.alloc (World.alloc w _) _) _ = U at *
  have hz := HZ0.out
  have f0 := cells_at H1.out 0 (.int .i64 c.id) rfl; have f1 := cells_at H1.out 1 (.int .i64 c.parent) rfl; have f2 := cells_at H1.out 2 (.float .f64 c.share) rfl; have f3 := cells_at H1.out 3 (.int .i64 c.prio) rfl; have f4 := cells_at H1.out 4 (.int .i64 c.quantum) rfl; have f5 := cells_at H1.out 5 (.int .i64 c.limit) rfl; have f6 := cells_at H1.out 6 (.int .i64 c.weight) rfl; have f7 := cells_at H1.out 7 (.int .i64 c.minIdle) rfl; have f8 := cells_at H1.out 8 (.int .i64 c.maxIdle) rfl; have f9 := cells_at H1.out 9 (.bool c.bounded) rfl; have f10 := cells_at H1.out 10 (.bool c.isolated) rfl
  go_upto_region 3 with (go_at_call 146; (with_reducible refine (HR.out _).mono ?_); rintro e w1 ⟨rfl, hb⟩; have HB := Lib.hid hb; clear hb)
  have hw1 := HB.out.size
  have K0 := Lib.hid ((HB.out.block w.heap.size (by omega)).trans H0.out); have K1 := Lib.hid ((HB.out.block (w.heap.size + 1) (by omega)).trans H1.out); have K2 := Lib.hid ((HB.out.block (w.heap.size + 2) (by omega)).trans H2.out)
  have HBW := Lib.hid (HB0.out.trans (HB.out.mono HB0.out.size))
  have hw2 : w.heap.size + 2 < w1.heap.size := by omega
  clear f0 f1 f2 f3 f4 f5 f6 f7 f8 f9 f10 H0 H1 H2 HB0 HZ0 HB hz hw1 HR
  have s0 := cells_at K0.out 0 (.int .i64 s.l) rfl; have s1 := cells_at K0.out 1 (.int .i64 s.a) rfl
  have f0 := cells_at K1.out 0 (.int .i64 c.id) rfl; have f1 := cells_at K1.out 1 (.int .i64 c.parent) rfl; have f2 := cells_at K1.out 2 (.float .f64 c.share) rfl; have f3 := cells_at K1.out 3 (.int .i64 c.prio) rfl; have f4 := cells_at K1.out 4 (.int .i64 c.quantum) rfl; have f5 := cells_at K1.out 5 (.int .i64 c.limit) rfl; have f6 := cells_at K1.out 6 (.int .i64 c.weight) rfl; have f7 := cells_at K1.out 7 (.int .i64 c.minIdle) rfl; have f8 := cells_at K1.out 8 (.int .i64 c.maxIdle) rfl; have f9 := cells_at K1.out 9 (.bool c.bounded) rfl; have f10 := cells_at K1.out 10 (.bool c.isolated) rfl
  go_upto_region 4 with (go_at_call 147; (with_reducible refine (refsub_c _ _ _).mono ?_); rintro e w' ⟨rfl, rfl⟩)
  rw [← HV.out]
  have hSS : ∀ q, (q = w.heap.size ∨ q = w.heap.size + 1) → q < w1.heap.size := fun q hq => by rcases hq with e | e <;> omega
  have HSS := Lib.hid hSS
  have HD0 := Lib.hid ((Below.refl w1.heap.size w1).drew)
  clear hSS
  refine Lx.wp_region_X 8 (fun w' => ∃ z, w' = Lx.kept (fun q => q = w.heap.size ∨ q = w.heap.size + 1) w1.drew z) (fun i => i == 5 || i == 7) (by kernel_rfl) (by kernel_rfl) (Lx.kept_of (Lx.Keeps.refl _ _)) ?_
  simp only [List.take_succ_cons, List.take_zero, List.drop_succ_cons, List.drop_zero]
  repeat (refine Lx.wpX_step (fun K hK => ?_); first | (refine Lx.opX_free (by rfl) (by rfl) (by rfl) ?_; go_big_quiet_op; refine hK _ _ ?_; clear hK K) | (refine Lx.opX_nil (by rfl) (by rfl) (by rfl) (by rfl) ?_; refine hK _ _ ?_; clear hK K; simp only [Act.put, List.setIfInBounds_toArray, List.set_cons_succ, List.set_cons_zero]))
  refine Lx.wpX_step (fun K hK => ?_)
  refine Lx.opX_law (by rfl) (by rfl) ?_
  go_wp2_with (go_at_call 149; (with_reducible refine (refstep_c _ _ _ _).mono ?_); rintro e w' ⟨rfl, rfl⟩)
  refine Lx.nq_mk (Lx.kept_of (Lx.Keeps.refl _ _)) (hK _ _ ?_)
  clear hK K
  repeat (refine Lx.wpX_step (fun K hK => ?_); first | (refine Lx.opX_free (by rfl) (by rfl) (by rfl) ?_; go_big_quiet_op; refine hK _ _ ?_; clear hK K) | (refine Lx.opX_nil (by rfl) (by rfl) (by rfl) (by rfl) ?_; refine hK _ _ ?_; clear hK K; simp only [Act.put, List.setIfInBounds_toArray, List.set_cons_succ, List.set_cons_zero]))
  refine Lx.wpX_step (fun K hK => ?_)
  refine Lx.opX_law (by rfl) (by rfl) ?_
  go_wp2_with (go_at_call 148; (with_reducible refine (HH.out _ _).mono ?_); rintro e w3 ⟨rfl, hb3⟩; have hbk := HD0.out.trans hb3; have HB3 := Lib.hid hbk; clear hb3 hbk)
  refine Lx.nq_mk (Lx.kept_of (fun g hg => HB3.out.block g (HSS.out g hg))) (hK _ _ ?_)
  clear hK K
  refine Lx.wpX_nil ?_
  rw [← HA.out]
  have m6 := cells_at ((HB3.out.block (w.heap.size + 1) (by omega)).trans K1.out) 6 (.int .i64 c.weight) rfl
  have M2 := Lib.hid ((HB3.out.block (w.heap.size + 2) (by omega)).trans K2.out)
  have HBW3 := Lib.hid (HBW.out.trans (HB3.out.mono HBW.out.size))
  have hw3 := HB3.out.size
  clear s0 s1 f0 f1 f2 f3 f4 f5 f6 f7 f8 f9 f10 K0 K1 K2 HBW HSS
  by_cases hn : A < 0
  · have haw : awayS A c.weight = -A * (powS c.weight - 1) := away_mul HWT.out (by omega) (by omega)
    have HXn := Lib.hid (show X = ⟨hold now, A, addS now (addS time (-A * (powS c.weight - 1)))⟩ by rw [HX.out, if_pos hn, haw])
    have p1 : -A * (powS c.weight - 1) ≤ 1099511627776 * 65536 := Int.mul_le_mul (by omega) (by omega) (by omega) (by omega)
    have p2 : 0 ≤ -A * (powS c.weight - 1) := Int.mul_nonneg (by omega) (by omega)
    generalize powS c.weight = pw at *
    clear HX haw
    go_wp2_with (first
      | (go_at_call 151; (with_reducible refine (HPW.out _).mono ?_); rintro e w' ⟨rfl, rfl⟩)
      | (go_at_call 150; (with_reducible refine (refadd_c _ _ _).mono ?_); rintro e w' ⟨rfl, rfl⟩)
      | (go_at_call 152; (with_reducible refine (refhold_c _ _).mono ?_); rintro e w' ⟨rfl, rfl⟩)
      | (refine wpList_store_whole (by rfl) 138 _ _ (by rfl) 3 Tryz.sizeOf138 (w.heap.size + 2) _ _ 138 (by rfl) (by rfl) M2.out (by rfl) (by rfl) (by simp [Value.oneCell']) ?_; intro w6 hb6 hg6; have r0 := cells_at hb6 0 _ rfl; have r1 := cells_at hb6 1 _ rfl; have r2 := cells_at hb6 2 _ rfl; have HG6 := Lib.hid hg6; clear hb6 hg6))
    (try simp only [Exit.inBlock, Exit.then])
    refine bodyPost_ret (v := .agg #[.int .i64 (hold now), .int .i64 A, .int .i64 (addS now (addS time (-A * (pw - 1))))]) (by simp [results, Tryz.results71, go_sem, r0, r1, r2]) rfl ?_
    exact ⟨by rw [HXn.out], HBW3.out.grown HG6.out HBW3.out.size (fun q hq => by injection hq; omega)⟩
  · have HXn := Lib.hid (show X = ⟨hold now, A, 0⟩ by rw [HX.out, if_neg hn])
    clear HX
    go_wp2_with (first
      | (go_at_call 152; (with_reducible refine (refhold_c _ _).mono ?_); rintro e w' ⟨rfl, rfl⟩)
      | (refine wpList_store_whole (by rfl) 138 _ _ (by rfl) 3 Tryz.sizeOf138 (w.heap.size + 2) _ _ 138 (by rfl) (by rfl) M2.out (by rfl) (by rfl) (by simp [Value.oneCell']) ?_; intro w6 hb6 hg6; have r0 := cells_at hb6 0 _ rfl; have r1 := cells_at hb6 1 _ rfl; have r2 := cells_at hb6 2 _ rfl; have HG6 := Lib.hid hg6; clear hb6 hg6))
    (try simp only [Exit.inBlock, Exit.then])
    refine bodyPost_ret (v := .agg #[.int .i64 (hold now), .int .i64 A, .int .i64 0]) (by simp [results, Tryz.results71, go_sem, r0, r1, r2]) rfl ?_
    exact ⟨by rw [HXn.out], HBW3.out.grown HG6.out HBW3.out.size (fun q hq => by injection hq; omega)⟩
end Go.Proofs.YtpchhfhmopmagaaGreat.Id

/- The document's gauges: rows; Of, Over, Wake. -/
namespace Go.Proofs.YtpchhfhmopmagaaGreat.Rg
open Go.RowKit Go.Maps Wd Li St Sr Go.Proofs.YtpchhfhmopmagaaGreat.Mp Go.Proofs.YtpchhfhmopmagaaGreat.Cl Go.Proofs.YtpchhfhmopmagaaGreat.So Go.Proofs.YtpchhfhmopmagaaGreat.Tr Go.Proofs.YtpchhfhmopmagaaGreat.Sw Go.Proofs.YtpchhfhmopmagaaGreat.Id
attribute [local go_sem] run_store_float Lx.opX Rel.oneOk
attribute [local irreducible] Lx.wpX

/-- a class's row -/
structure G where
  id : Int
  s : S3
def G.cells (g : G) : List Value := [.int .i64 g.id, .int .i64 g.s.l, .int .i64 g.s.a, .int .i64 g.s.u]
theorem g_one (g : G) : ∀ v ∈ g.cells, v.oneCell' = true := by
  intro v hv; simp [G.cells] at hv; rcases hv with rfl | rfl | rfl | rfl <;> rfl
abbrev HoldsG (N : Nat) (w : World) (sv : Value) (zs : List G) : Prop := Lies 4 G.cells N w sv zs
def ofG (zs : List G) (id : Int) : Option S3 := (zs.find? (fun g => decide (g.id = id))).map G.s
theorem find_none {zs : List G} {id : Int} (h : ∀ (j : Nat) (x : G), zs[j]? = some x → x.id ≠ id) : ofG zs id = none := by
  unfold ofG
  rw [List.find?_eq_none.2 (fun x hx => by obtain ⟨j, hj⟩ := List.getElem?_of_mem hx; simp [h j x hj])]; rfl
theorem find_hit {zs : List G} {id : Int} {k : Nat} {x : G} (hx : zs[k]? = some x) (h : ∀ (j : Nat) (y : G), j < k → zs[j]? = some y → y.id ≠ id) (hi : x.id = id) : ofG zs id = some x.s := by
  unfold ofG
  have hk := (List.getElem?_eq_some_iff.1 hx).1
  have e : zs = zs.take k ++ x :: zs.drop (k + 1) := by
    have := (List.getElem?_eq_some_iff.1 hx).2
    rw [← this, List.getElem_cons_drop, List.take_append_drop]
  rw [e, List.find?_append, List.find?_eq_none.2 (fun y hy => by
    obtain ⟨j, hj⟩ := List.getElem?_of_mem hy
    have hjk : j < k := by have := (List.getElem?_eq_some_iff.1 hj).1; rw [List.length_take] at this; omega
    rw [List.getElem?_take_of_lt hjk] at hj
    simp [h j y hjk hj])]
  simp [hi]
def RStateOk (o : Option S3) (w : World) (e : Ending) (w' : World) : Prop := e = .returned (.tuple #[(o.getD S3.nil).agg, .bool o.isSome]) ∧ Below w.heap.size w w'
set_option maxRecDepth 20000 in
set_option maxHeartbeats 1000000 in
theorem refof_c (A : Option Addr) (n c : Nat) (zs : List G) (hlen : zs.length ≤ 1048576) (id : Int) (w : World) (hI : HoldsG w.heap.size w (.slice A n c) zs) :
    Calls Tryz.prog 92 #[.slice A n c, .int .i64 id] w (RStateOk (ofG zs id) w) := by
  obtain ⟨rfl, hcs⟩ := Lies.parts hI
  have hB := (Below.refl w.heap.size w).alloc (Nat.le_refl _) (.cells #[.int .i64 0, .int .i64 0, .int .i64 0] 138)
  have HB := Lib.hid hB
  have HH := Lib.hid (heap_alloc_new w (.cells #[.int .i64 0, .int .i64 0, .int .i64 0] 138))
  have HI := Lib.hid (Lies.below hB hI)
  clear hcs hI hB
  unfold RStateOk
  go_enter Tryz.func92, Tryz.ntmps92
  go_upto_region 1 with fail
  generalize World.alloc w _ = U at *
  go_wp2_with fail
  go_loopg [6] zs.length (fun kx s6 wr => ∃ k : Nat, s6 = .int .i64 k ∧ k ≤ zs.length ∧ zs.length - k ≤ kx ∧ Hid (∀ (j : Nat) (x : G), j < k → zs[j]? = some x → x.id ≠ id) ∧ U = wr)
  case atStart => exact ⟨0, rfl, by omega, by omega, Lib.hid (fun j x hj => by omega), rfl⟩
  case round =>
    obtain ⟨k, rfl, hk, hkx, HN, rfl⟩ := hrel
    by_cases hlt : k < zs.length
    · have hltz : (k : Int) < (zs.length : Int) := by omega
      obtain ⟨_, hcs⟩ := Lies.parts HI.out
      obtain ⟨b, off, rfl, hb, hc⟩ := hcs (by omega)
      obtain ⟨g, hg⟩ : ∃ g, zs[k]? = some g := ⟨_, List.getElem?_eq_getElem hlt⟩
      have c0 : U.cell? ⟨b, off + k * 4, none⟩ = some (.int .i64 g.id) := hc k g hg 0 _ rfl
      have c1 := hc k g hg 1 _ rfl; have c2 := hc k g hg 2 _ rfl; have c3 := hc k g hg 3 _ rfl
      have HG := Lib.hid hg
      clear hcs hc hg
      by_cases hi : g.id = id
      · have hib : (g.id == id) = true := by rw [beq_iff_eq]; exact hi
        have HF := Lib.hid (find_hit HG.out HN.out hi)
        clear hi
        go_wp2_with (first | (refine wpList_store_whole (by rfl) 138 _ _ (by rfl) 3 Tryz.sizeOf138 w.heap.size _ _ 138 (by rfl) (by rfl) HH.out (by rfl) (by rfl) (by simp [Value.oneCell']) ?_; intro w6 hb6 hg6; have r0 := cells_at hb6 0 _ rfl; have r1 := cells_at hb6 1 _ rfl; have r2 := cells_at hb6 2 _ rfl; have HG6 := Lib.hid hg6; clear hb6 hg6))
        (try simp only [Exit.inBlock, Exit.then])
        refine bodyPost_ret (v := .tuple #[.agg #[.int .i64 g.s.l, .int .i64 g.s.a, .int .i64 g.s.u], .bool true]) (by simp [results, Tryz.results92, go_sem, r0, r1, r2]) rfl ?_
        exact ⟨by rw [HF.out]; rfl, HB.out.grown HG6.out HB.out.size (fun q hq => by injection hq; omega)⟩
      · have hib : (g.id == id) = false := by rw [beq_eq_false_iff_ne]; exact hi
        have HGI := Lib.hid hi
        clear hi
        go_wp2_with fail
        go_roundg (zs.length - (k + 1))
        case measure => omega
        case rel => exact ⟨k + 1, by go_num, by omega, by omega, Lib.hid (fun j x hj hx => by
          rcases Nat.lt_or_ge j k with h | h
          · exact HN.out j x h hx
          · have : j = k := by omega
            subst this
            rw [HG.out] at hx; injection hx with hx; rw [← hx]; exact HGI.out), rfl⟩
    · have hltz : ¬ (k : Int) < (zs.length : Int) := by omega
      have HF := Lib.hid (find_none (zs := zs) (id := id) (fun j x hx => HN.out j x (by have := (List.getElem?_eq_some_iff.1 hx).1; omega) hx))
      go_wp2_with (first | (refine wpList_store_whole (by rfl) 138 _ _ (by rfl) 3 Tryz.sizeOf138 w.heap.size _ _ 138 (by rfl) (by rfl) HH.out (by rfl) (by rfl) (by simp [Value.oneCell']) ?_; intro w6 hb6 hg6; have r0 := cells_at hb6 0 _ rfl; have r1 := cells_at hb6 1 _ rfl; have r2 := cells_at hb6 2 _ rfl; have HG6 := Lib.hid hg6; clear hb6 hg6))
      (try simp only [Exit.inBlock, Exit.then])
      refine bodyPost_ret (v := .tuple #[.agg #[.int .i64 0, .int .i64 0, .int .i64 0], .bool false]) (by simp [results, Tryz.results92, go_sem, r0, r1, r2]) rfl ?_
      exact ⟨by rw [HF.out]; rfl, HB.out.grown HG6.out HB.out.size (fun q hq => by injection hq; omega)⟩
end Go.Proofs.YtpchhfhmopmagaaGreat.Rg

/- The document's gauges: Over, Wake, Overs. -/
namespace Go.Proofs.YtpchhfhmopmagaaGreat.Rg
open Go.RowKit Go.Maps Wd Li St Sr Go.Proofs.YtpchhfhmopmagaaGreat.Mp Go.Proofs.YtpchhfhmopmagaaGreat.Cl Go.Proofs.YtpchhfhmopmagaaGreat.So Go.Proofs.YtpchhfhmopmagaaGreat.Tr Go.Proofs.YtpchhfhmopmagaaGreat.Sw Go.Proofs.YtpchhfhmopmagaaGreat.Id
attribute [local go_sem] run_store_float Lx.opX Rel.oneOk
attribute [local irreducible] Lx.wpX

set_option maxRecDepth 20000 in
set_option maxHeartbeats 1000000 in
theorem refgover_c (A : Option Addr) (n c : Nat) (zs : List G) (hlen : zs.length ≤ 1048576) (s : S3) (id now : Int) (hs : ofG zs id = some s) (w : World) (hI : HoldsG w.heap.size w (.slice A n c) zs) :
    Calls Tryz.prog 74 #[.slice A n c, .int .i64 id, .int .i64 now] w fun e w' => e = .returned (.bool (decide (now < s.u))) ∧ Below w.heap.size w w' := by
  have HS := Lib.hid (refof_c A n c zs hlen id w hI)
  unfold RStateOk at HS
  rw [hs] at HS
  simp only [Option.getD_some, Option.isSome_some] at HS
  unfold S3.agg at HS
  have HO := Lib.hid (fun u => refover_c s now u)
  unfold S3.agg at HO
  clear hI
  go_enter Tryz.func74, Tryz.ntmps74
  go_upto_region 2 with (go_at_call 92; (with_reducible refine (HS.out).mono ?_); rintro e w1 ⟨rfl, hb1⟩; have HB1 := Lib.hid hb1; clear hb1)
  have hh := heap_alloc_new w1 (.cells #[.int .i64 s.l, .int .i64 s.a, .int .i64 s.u] 138)
  have hb := HB1.out.alloc HB1.out.size (.cells #[.int .i64 s.l, .int .i64 s.a, .int .i64 s.u] 138)
  generalize World.alloc w1 _ = u at *
  have f0 := cells_at hh 0 (.int .i64 s.l) rfl; have f1 := cells_at hh 1 (.int .i64 s.a) rfl; have f2 := cells_at hh 2 (.int .i64 s.u) rfl
  have HB2 := Lib.hid hb
  clear hh hb
  go_wp2_with (go_at_call 155; (with_reducible refine (HO.out _).mono ?_); rintro e w' ⟨rfl, hb⟩; have HB3 := Lib.hid (HB2.out.trans (hb.mono HB2.out.size)); clear hb)
  go_ret
  exact ⟨rfl, HB3.out⟩
def wakeS (s : S3) (now : Int) : Int := if now < s.u then s.u else now
set_option maxRecDepth 20000 in
set_option maxHeartbeats 1000000 in
theorem refgwake_c (A : Option Addr) (n c : Nat) (zs : List G) (hlen : zs.length ≤ 1048576) (s : S3) (id now : Int) (hs : ofG zs id = some s) (w : World) (hI : HoldsG w.heap.size w (.slice A n c) zs) :
    Calls Tryz.prog 75 #[.slice A n c, .int .i64 id, .int .i64 now] w fun e w' => e = .returned (.int .i64 (wakeS s now)) ∧ Below w.heap.size w w' := by
  have HS := Lib.hid (refof_c A n c zs hlen id w hI)
  unfold RStateOk at HS
  rw [hs] at HS
  simp only [Option.getD_some, Option.isSome_some] at HS
  unfold S3.agg at HS
  have HO := Lib.hid (fun u => refover_c s now u)
  unfold S3.agg at HO
  clear hI
  by_cases hq : now < s.u
  · have hr := Lib.hid (show wakeS s now = s.u from if_pos hq)
    have hd : decide (now < s.u) = true := decide_eq_true hq
    rw [hd] at HO
    clear hq hd
    go_enter Tryz.func75, Tryz.ntmps75
    go_upto_region 2 with (go_at_call 92; (with_reducible refine (HS.out).mono ?_); rintro e w1 ⟨rfl, hb1⟩; have HB1 := Lib.hid hb1; clear hb1)
    have hh := heap_alloc_new w1 (.cells #[.int .i64 s.l, .int .i64 s.a, .int .i64 s.u] 138)
    have hb := HB1.out.alloc HB1.out.size (.cells #[.int .i64 s.l, .int .i64 s.a, .int .i64 s.u] 138)
    have hz : (w1.alloc (.cells #[.int .i64 s.l, .int .i64 s.a, .int .i64 s.u] 138)).heap.size = w1.heap.size + 1 := by simp
    generalize World.alloc w1 _ = u at *
    have f0 := cells_at hh 0 (.int .i64 s.l) rfl; have f1 := cells_at hh 1 (.int .i64 s.a) rfl; have f2 := cells_at hh 2 (.int .i64 s.u) rfl
    have HB2 := Lib.hid hb
    have hul : w1.heap.size < u.heap.size := by omega
    have HH := Lib.hid hh
    clear hh hb hz
    go_wp2_with (go_at_call 155; (with_reducible refine (HO.out _).mono ?_); rintro e w' ⟨rfl, hb⟩; have g2 := cells_at ((hb.block w1.heap.size hul).trans HH.out) 2 (.int .i64 s.u) rfl; have HB3 := Lib.hid (HB2.out.trans (hb.mono HB2.out.size)); clear hb)
    go_ret
    exact ⟨by rw [hr.out]; rfl, HB3.out⟩
  · have hr := Lib.hid (show wakeS s now = now from if_neg hq)
    have hd : decide (now < s.u) = false := decide_eq_false hq
    rw [hd] at HO
    clear hq hd
    go_enter Tryz.func75, Tryz.ntmps75
    go_upto_region 2 with (go_at_call 92; (with_reducible refine (HS.out).mono ?_); rintro e w1 ⟨rfl, hb1⟩; have HB1 := Lib.hid hb1; clear hb1)
    have hh := heap_alloc_new w1 (.cells #[.int .i64 s.l, .int .i64 s.a, .int .i64 s.u] 138)
    have hb := HB1.out.alloc HB1.out.size (.cells #[.int .i64 s.l, .int .i64 s.a, .int .i64 s.u] 138)
    generalize World.alloc w1 _ = u at *
    have f0 := cells_at hh 0 (.int .i64 s.l) rfl; have f1 := cells_at hh 1 (.int .i64 s.a) rfl; have f2 := cells_at hh 2 (.int .i64 s.u) rfl
    have HB2 := Lib.hid hb
    clear hh hb
    go_wp2_with (go_at_call 155; (with_reducible refine (HO.out _).mono ?_); rintro e w' ⟨rfl, hb⟩; have HB3 := Lib.hid (HB2.out.trans (hb.mono HB2.out.size)); clear hb)
    go_ret
    exact ⟨by rw [hr.out]; rfl, HB3.out⟩
/-- the ids over their limit, of the first k rows -/
def overK (zs : List G) (now : Int) (k : Nat) : List Int := ((zs.take k).filter (fun g => decide (now < g.s.u))).map G.id
theorem overK_yes {zs : List G} {now : Int} {k : Nat} {g : G} (hg : zs[k]? = some g) (h : now < g.s.u) : overK zs now (k + 1) = overK zs now k ++ [g.id] := by
  unfold overK
  rw [List.take_add_one, hg, List.filter_append, List.map_append]
  simp [h]
theorem overK_no {zs : List G} {now : Int} {k : Nat} {g : G} (hg : zs[k]? = some g) (h : ¬ now < g.s.u) : overK zs now (k + 1) = overK zs now k := by
  unfold overK
  rw [List.take_add_one, hg, List.filter_append, List.map_append]
  simp [h]
theorem overK_len (zs : List G) (now : Int) (k : Nat) : (overK zs now k).length ≤ zs.length := by
  unfold overK
  rw [List.length_map]
  exact Nat.le_trans (List.length_filter_le _ _) (by rw [List.length_take]; omega)
end Go.Proofs.YtpchhfhmopmagaaGreat.Rg

/- Overs: the document's, the gauge's. -/
namespace Go.Proofs.YtpchhfhmopmagaaGreat.Rg
open Go.RowKit Go.Maps Wd Li St Sr Go.Proofs.YtpchhfhmopmagaaGreat.Mp Go.Proofs.YtpchhfhmopmagaaGreat.Cl Go.Proofs.YtpchhfhmopmagaaGreat.So Go.Proofs.YtpchhfhmopmagaaGreat.Tr Go.Proofs.YtpchhfhmopmagaaGreat.Tp Go.Proofs.YtpchhfhmopmagaaGreat.Sw Go.Proofs.YtpchhfhmopmagaaGreat.Id Go.Proofs.YtpchhfhmopmagaaGreat.Ga
attribute [local go_sem] run_store_float Lx.opX Rel.oneOk
attribute [local irreducible] Lx.wpX

theorem own_below {w w' : World} {base z n : Nat} {e : TypeId} {v : Value} {xs : List Value} (h : w.ownsRow base e z v n xs) (hb : Below w.heap.size w w') : w'.ownsRow base e z v n xs := own_same h (fun q hq => hb.block q (h.lt q hq).2)
set_option maxRecDepth 20000 in
set_option maxHeartbeats 2000000 in
theorem refovers_c (A : Option Addr) (n c : Nat) (zs : List G) (hlen : zs.length ≤ 1000000) (now : Int) (w : World) (hI : HoldsG w.heap.size w (.slice A n c) zs) :
    Calls Tryz.prog 76 #[.slice A n c, .int .i64 now] w (ListOk (overK zs now zs.length) w) := by
  obtain ⟨rfl, _⟩ := Lies.parts hI
  have HI := Lib.hid hI
  clear hI
  go_enter Tryz.func76, Tryz.ntmps76
  go_wp2_with fail
  go_loopg [5, 6] zs.length (fun kx s5 s6 wr => ∃ (k : Nat) (B9 : Option Addr) (c9 : Nat), s6 = .int .i64 k ∧ s5 = .slice B9 (overK zs now k).length c9 ∧ k ≤ zs.length ∧ zs.length - k ≤ kx ∧ Hid (wr.ownsRow w.heap.size 3 1 s5 (overK zs now k).length (St.I (overK zs now k))) ∧ Hid (Below w.heap.size w wr))
  case atStart => exact ⟨0, none, 0, rfl, rfl, by omega, by omega, Lib.hid (World.ownsRow_nil ..), Lib.hid (Below.refl _ _)⟩
  case round =>
    obtain ⟨k, B9, c9, rfl, rfl, hk, hkx, HO, HW⟩ := hrel
    have hwz := HW.out.size
    by_cases hlt : k < zs.length
    · have hltz : (k : Int) < (zs.length : Int) := by omega
      obtain ⟨_, hcs⟩ := Lies.parts HI.out
      obtain ⟨b, off, rfl, hb, hc⟩ := hcs (by omega)
      obtain ⟨g, hg⟩ : ∃ g, zs[k]? = some g := ⟨_, List.getElem?_eq_getElem hlt⟩
      have hcx : ∀ (i : Nat) (v : Value), g.cells[i]? = some v → wr.cell? ⟨b, off + k * 4 + i, none⟩ = some v := fun i v hv => (HW.out.cell (p := ⟨b, off + k * 4 + i, none⟩) hb).trans (hc k g hg i v hv)
      have c1 := hcx 1 _ rfl; have c2 := hcx 2 _ rfl; have c3 := hcx 3 _ rfl
      have HC0 := Lib.hid (show wr.cell? ⟨b, off + k * 4, none⟩ = some (.int .i64 g.id) from hcx 0 _ rfl)
      have hol := overK_len zs now k
      have HV := Lib.hid (fun u => refover_c g.s now u)
      unfold S3.agg at HV
      by_cases hov : now < g.s.u
      · have HT := Lib.hid (overK_yes hg hov)
        have hd : decide (now < g.s.u) = true := decide_eq_true hov
        rw [hd] at HV
        clear hc hg hcx hov hd hcs
        generalize overK zs now k = os at *
        have hbw : b < wr.heap.size := by omega
        go_wp2_with (first
          | (go_at_call 155; (with_reducible refine (HV.out _).mono ?_); rintro e w2 ⟨rfl, hb2⟩; have c0 := (hb2.cell (p := ⟨b, off + k * 4, none⟩) hbw).trans HC0.out; have HW2 := Lib.hid (HW.out.trans (hb2.mono hwz)); have HO2 := Lib.hid (own_below HO.out hb2); have hw2 := HW2.out.size; clear hb2)
          | ((at_builtin; go_must (refine wpList_push_at (by rfl) _ _ 38 (by rfl) Tryz.underlying38 w.heap.size g.id _ _ os (by rfl) HO2.out (by rfl) (by omega) hw2 ?_)); intro g7 cap7 w7 hown7 hg7 hl7; have HO7 := Lib.hid hown7; have HB7 := Lib.hid (push_below HW2.out (Nat.le_refl _) hw2 HO2.out hg7); clear hown7 hg7 hl7))
        go_roundg (zs.length - (k + 1))
        case measure => omega
        case rel => exact ⟨k + 1, some ⟨g7, 0, none⟩, cap7, by go_num, by rw [HT.out]; simp, by omega, by omega, Lib.hid (by rw [HT.out]; have := HO7.out; simpa [Sv.val] using this), HB7⟩
      · have HT := Lib.hid (overK_no hg hov)
        have hd : decide (now < g.s.u) = false := decide_eq_false hov
        rw [hd] at HV
        clear hc hg hcx hov hd hcs
        go_wp2_with (go_at_call 155; (with_reducible refine (HV.out _).mono ?_); rintro e w2 ⟨rfl, hb2⟩; have HW2 := Lib.hid (HW.out.trans (hb2.mono hwz)); have HO2 := Lib.hid (own_below HO.out hb2); clear hb2)
        go_roundg (zs.length - (k + 1))
        case measure => omega
        case rel => exact ⟨k + 1, B9, c9, by go_num, by rw [HT.out], by omega, by omega, Lib.hid (by rw [HT.out]; exact HO2.out), HW2⟩
    · have hltz : ¬ (k : Int) < (zs.length : Int) := by omega
      obtain rfl : k = zs.length := by omega
      go_wp2
      go_ret
      exact ⟨B9, c9, rfl, Sl.of_own HO.out, HW.out⟩
end Go.Proofs.YtpchhfhmopmagaaGreat.Rg
