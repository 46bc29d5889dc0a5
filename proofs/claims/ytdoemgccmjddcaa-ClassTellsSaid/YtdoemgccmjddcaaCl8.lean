/- Classes: the law ClassTells. -/
import Derived.Test.YtdoemgccmjddcaaCl7
import Derived.Deep.DeepCutAuto
import Derived.Handy
namespace Go.Proofs.Ytdoemgccmjddcaa.Cl
open Go.RowKit Fl Wd St Rel
attribute [local go_sem] run_store_float opR oneOk relOk
attribute [local irreducible] wpRel

set_option maxRecDepth 20000 in
set_option maxHeartbeats 1000000 in
theorem of_exact (c : Cls) (b : Nat) (w : World) : Calls Try.prog 38 #[c.agg, .int .u64 (b : Int)] w fun e w' => e = .returned ((c.with b).agg) ∧
    (w.alloc (.cells #[.int .i64 c.id, .int .i64 c.parent, .float .f64 b, .int .i64 c.prio, .int .i64 c.quantum, .int .i64 c.limit, .int .i64 c.weight, .int .i64 c.minIdle, .int .i64 c.maxIdle, .bool c.bounded, .bool c.isolated] 64)).alloc
      (.cells #[.int .i64 c.id, .int .i64 c.parent, .float .f64 b, .int .i64 c.prio, .int .i64 c.quantum, .int .i64 c.limit, .int .i64 c.weight, .int .i64 c.minIdle, .int .i64 c.maxIdle, .bool c.bounded, .bool c.isolated] 64) = w' := by
  unfold Cls.agg Cls.with
  go_enter Try.func38, Try.ntmps38
  go_wp2
  exact bodyPost_ret (v := .agg #[.int .i64 c.id, .int .i64 c.parent, .float .f64 b, .int .i64 c.prio, .int .i64 c.quantum, .int .i64 c.limit, .int .i64 c.weight, .int .i64 c.minIdle, .int .i64 c.maxIdle, .bool c.bounded, .bool c.isolated]) (by simp [results, Try.results38, go_sem]) rfl ⟨rfl, rfl⟩

/-- a class lies at block 'g' -/
def ClsAt (w : World) (g : Nat) (c : Cls) : Prop :=
    w.cell? ⟨g, 0, none⟩ = some (.int .i64 c.id) ∧ w.cell? ⟨g, 1, none⟩ = some (.int .i64 c.parent) ∧ w.cell? ⟨g, 2, none⟩ = some (.float .f64 c.share) ∧ w.cell? ⟨g, 3, none⟩ = some (.int .i64 c.prio) ∧
    w.cell? ⟨g, 4, none⟩ = some (.int .i64 c.quantum) ∧ w.cell? ⟨g, 5, none⟩ = some (.int .i64 c.limit) ∧ w.cell? ⟨g, 6, none⟩ = some (.int .i64 c.weight) ∧ w.cell? ⟨g, 7, none⟩ = some (.int .i64 c.minIdle) ∧
    w.cell? ⟨g, 8, none⟩ = some (.int .i64 c.maxIdle) ∧ w.cell? ⟨g, 9, none⟩ = some (.bool c.bounded) ∧ w.cell? ⟨g, 10, none⟩ = some (.bool c.isolated)
theorem right_ok {c : Cls} (h : rightS c = 0) : (unitsS c.share).2 = 0 ∧ 1 ≤ (unitsS c.share).1 := by
  have hf : fairS c.share = 0 := by
    unfold rightS at h
    by_cases h1 : c.id < 1 ∨ 65535 < c.id ∨ c.parent < 0 ∨ 65535 < c.parent
    · rw [if_pos h1] at h; cases h
    · rw [if_neg h1] at h
      by_cases h2 : c.parent = c.id
      · rw [if_pos h2] at h; cases h
      · rw [if_neg h2] at h
        by_cases h3 : fairS c.share = 0
        · exact h3
        · rw [if_pos h3] at h; exact h
  unfold fairS at hf
  split at hf
  · cases hf
  · split at hf
    · cases hf
    · rename_i h1 h2
      constructor
      · by_cases h3 : (unitsS c.share).2 = 0
        · exact h3
        · exact absurd (.inl h3) h2
      · by_cases h3 : (unitsS c.share).1 = 0
        · exact absurd (.inr h3) h2
        · omega
theorem units_le (b : Nat) (hb : b < 18446744073709551616) : (unitsS b).1 ≤ 1048576 := by
  unfold unitsS
  split
  · simp
  · split
    · simp
    · rename_i h1 h2
      simp only [Bool.or_eq_true, not_or] at h2
      have hn : nan b = false := by simpa using h1
      rcases in_bounds hb hn (by simpa using h2.1) (by simpa using h2.2) with h | rfl
      · have hm : b % 9223372036854775808 = b := by have : one = 4607182418800017408 := rfl; omega
        show rhe _ ≤ _
        rw [hm]; exact rhe_le (small_mag h)
      · show rhe _ ≤ _
        rw [show 9223372036854775808 % 9223372036854775808 = 0 from rfl, mag_zero, Nat.zero_mul, rhe_zero]; omega
theorem sameS_self (c : Cls) : sameS c c = true := by simp [sameS, same, restEq]

theorem keepS {h b0 b1 : Nat} {a b : Cls} {w1 w' : World} (hS : w1.cell? ⟨h, 0, none⟩ = some (.int .i64 a.id) ∧ w1.cell? ⟨h, 1, none⟩ = some (.int .i64 a.parent) ∧ w1.cell? ⟨h, 2, none⟩ = some (.float .f64 a.share) ∧ w1.cell? ⟨h, 3, none⟩ = some (.int .i64 a.prio) ∧ w1.cell? ⟨h, 4, none⟩ = some (.int .i64 a.quantum) ∧ w1.cell? ⟨h, 5, none⟩ = some (.int .i64 a.limit) ∧ w1.cell? ⟨h, 6, none⟩ = some (.int .i64 a.weight) ∧ w1.cell? ⟨h, 7, none⟩ = some (.int .i64 a.minIdle) ∧ w1.cell? ⟨h, 8, none⟩ = some (.int .i64 a.maxIdle) ∧ w1.cell? ⟨h, 9, none⟩ = some (.bool a.bounded) ∧ w1.cell? ⟨h, 10, none⟩ = some (.bool a.isolated) ∧ w1.cell? ⟨(h + 1), 0, none⟩ = some (.int .i64 b.id) ∧ w1.cell? ⟨(h + 1), 1, none⟩ = some (.int .i64 b.parent) ∧ w1.cell? ⟨(h + 1), 2, none⟩ = some (.float .f64 b.share) ∧ w1.cell? ⟨(h + 1), 3, none⟩ = some (.int .i64 b.prio) ∧ w1.cell? ⟨(h + 1), 4, none⟩ = some (.int .i64 b.quantum) ∧ w1.cell? ⟨(h + 1), 5, none⟩ = some (.int .i64 b.limit) ∧ w1.cell? ⟨(h + 1), 6, none⟩ = some (.int .i64 b.weight) ∧ w1.cell? ⟨(h + 1), 7, none⟩ = some (.int .i64 b.minIdle) ∧ w1.cell? ⟨(h + 1), 8, none⟩ = some (.int .i64 b.maxIdle) ∧ w1.cell? ⟨(h + 1), 9, none⟩ = some (.bool b.bounded) ∧ w1.cell? ⟨(h + 1), 10, none⟩ = some (.bool b.isolated) ∧ w1.cell? ⟨h + 1 + 1, 0, none⟩ = some (.int .u64 (b0 : Int)) ∧ w1.cell? ⟨h + 1 + 1, 1, none⟩ = some (.int .u64 (b1 : Int))) (hX : Below (h + 1 + 1 + 1) w1 w') : Below (h + 1 + 1 + 1) w1 w' ∧ w'.cell? ⟨h, 0, none⟩ = some (.int .i64 a.id) ∧ w'.cell? ⟨h, 1, none⟩ = some (.int .i64 a.parent) ∧ w'.cell? ⟨h, 2, none⟩ = some (.float .f64 a.share) ∧ w'.cell? ⟨h, 3, none⟩ = some (.int .i64 a.prio) ∧ w'.cell? ⟨h, 4, none⟩ = some (.int .i64 a.quantum) ∧ w'.cell? ⟨h, 5, none⟩ = some (.int .i64 a.limit) ∧ w'.cell? ⟨h, 6, none⟩ = some (.int .i64 a.weight) ∧ w'.cell? ⟨h, 7, none⟩ = some (.int .i64 a.minIdle) ∧ w'.cell? ⟨h, 8, none⟩ = some (.int .i64 a.maxIdle) ∧ w'.cell? ⟨h, 9, none⟩ = some (.bool a.bounded) ∧ w'.cell? ⟨h, 10, none⟩ = some (.bool a.isolated) ∧ w'.cell? ⟨(h + 1), 0, none⟩ = some (.int .i64 b.id) ∧ w'.cell? ⟨(h + 1), 1, none⟩ = some (.int .i64 b.parent) ∧ w'.cell? ⟨(h + 1), 2, none⟩ = some (.float .f64 b.share) ∧ w'.cell? ⟨(h + 1), 3, none⟩ = some (.int .i64 b.prio) ∧ w'.cell? ⟨(h + 1), 4, none⟩ = some (.int .i64 b.quantum) ∧ w'.cell? ⟨(h + 1), 5, none⟩ = some (.int .i64 b.limit) ∧ w'.cell? ⟨(h + 1), 6, none⟩ = some (.int .i64 b.weight) ∧ w'.cell? ⟨(h + 1), 7, none⟩ = some (.int .i64 b.minIdle) ∧ w'.cell? ⟨(h + 1), 8, none⟩ = some (.int .i64 b.maxIdle) ∧ w'.cell? ⟨(h + 1), 9, none⟩ = some (.bool b.bounded) ∧ w'.cell? ⟨(h + 1), 10, none⟩ = some (.bool b.isolated) ∧ w'.cell? ⟨h + 1 + 1, 0, none⟩ = some (.int .u64 (b0 : Int)) ∧ w'.cell? ⟨h + 1 + 1, 1, none⟩ = some (.int .u64 (b1 : Int)) := by
  obtain ⟨f0, f1, f2, f3, f4, f5, f6, f7, f8, f9, f10, f11, f12, f13, f14, f15, f16, f17, f18, f19, f20, f21, f22, f23⟩ := hS
  have k := fun (p : Addr) (hp : p.block < h + 1 + 1 + 1) => hX.cell hp
  exact ⟨hX, (k _ (by simp; try omega)).trans f0, (k _ (by simp; try omega)).trans f1, (k _ (by simp; try omega)).trans f2, (k _ (by simp; try omega)).trans f3, (k _ (by simp; try omega)).trans f4, (k _ (by simp; try omega)).trans f5, (k _ (by simp; try omega)).trans f6, (k _ (by simp; try omega)).trans f7, (k _ (by simp; try omega)).trans f8, (k _ (by simp; try omega)).trans f9, (k _ (by simp; try omega)).trans f10, (k _ (by simp; try omega)).trans f11, (k _ (by simp; try omega)).trans f12, (k _ (by simp; try omega)).trans f13, (k _ (by simp; try omega)).trans f14, (k _ (by simp; try omega)).trans f15, (k _ (by simp; try omega)).trans f16, (k _ (by simp; try omega)).trans f17, (k _ (by simp; try omega)).trans f18, (k _ (by simp; try omega)).trans f19, (k _ (by simp; try omega)).trans f20, (k _ (by simp; try omega)).trans f21, (k _ (by simp; try omega)).trans f22, (k _ (by simp; try omega)).trans f23⟩

set_option maxRecDepth 20000 in
set_option maxHeartbeats 40000000 in
theorem tells_t (a b : Cls) (b0 b1 : Nat) (h0 : b0 < 18446744073709551616) (h1 : b1 < 18446744073709551616) (w : World) :
    Calls Try.prog 6 #[a.agg, b.agg, .agg #[.int .u64 (b0 : Int), .int .u64 (b1 : Int)]] w fun e w' => e = .returned (.bool true) ∧ Below w.heap.size w w' := by
  unfold Cls.agg
  go_enter Try.func6, Try.ntmps6
  go_upto_region 1 with (fail)
  generalize hW : World.alloc (World.alloc (World.alloc w _) _) _ = w1
  have hz : w1.heap.size = w.heap.size + 1 + 1 + 1 := by rw [← hW]; simp
  have hb0 : Below w.heap.size w w1 := by rw [← hW]; exact (((Below.refl _ w).alloc (Nat.le_refl _) _).alloc (by simp) _).alloc (by simp; omega) _
  have hS : w1.cell? ⟨w.heap.size, 0, none⟩ = some (.int .i64 a.id) ∧ w1.cell? ⟨w.heap.size, 1, none⟩ = some (.int .i64 a.parent) ∧ w1.cell? ⟨w.heap.size, 2, none⟩ = some (.float .f64 a.share) ∧ w1.cell? ⟨w.heap.size, 3, none⟩ = some (.int .i64 a.prio) ∧ w1.cell? ⟨w.heap.size, 4, none⟩ = some (.int .i64 a.quantum) ∧ w1.cell? ⟨w.heap.size, 5, none⟩ = some (.int .i64 a.limit) ∧ w1.cell? ⟨w.heap.size, 6, none⟩ = some (.int .i64 a.weight) ∧ w1.cell? ⟨w.heap.size, 7, none⟩ = some (.int .i64 a.minIdle) ∧ w1.cell? ⟨w.heap.size, 8, none⟩ = some (.int .i64 a.maxIdle) ∧ w1.cell? ⟨w.heap.size, 9, none⟩ = some (.bool a.bounded) ∧ w1.cell? ⟨w.heap.size, 10, none⟩ = some (.bool a.isolated) ∧ w1.cell? ⟨(w.heap.size + 1), 0, none⟩ = some (.int .i64 b.id) ∧ w1.cell? ⟨(w.heap.size + 1), 1, none⟩ = some (.int .i64 b.parent) ∧ w1.cell? ⟨(w.heap.size + 1), 2, none⟩ = some (.float .f64 b.share) ∧ w1.cell? ⟨(w.heap.size + 1), 3, none⟩ = some (.int .i64 b.prio) ∧ w1.cell? ⟨(w.heap.size + 1), 4, none⟩ = some (.int .i64 b.quantum) ∧ w1.cell? ⟨(w.heap.size + 1), 5, none⟩ = some (.int .i64 b.limit) ∧ w1.cell? ⟨(w.heap.size + 1), 6, none⟩ = some (.int .i64 b.weight) ∧ w1.cell? ⟨(w.heap.size + 1), 7, none⟩ = some (.int .i64 b.minIdle) ∧ w1.cell? ⟨(w.heap.size + 1), 8, none⟩ = some (.int .i64 b.maxIdle) ∧ w1.cell? ⟨(w.heap.size + 1), 9, none⟩ = some (.bool b.bounded) ∧ w1.cell? ⟨(w.heap.size + 1), 10, none⟩ = some (.bool b.isolated) ∧ w1.cell? ⟨w.heap.size + 1 + 1, 0, none⟩ = some (.int .u64 (b0 : Int)) ∧ w1.cell? ⟨w.heap.size + 1 + 1, 1, none⟩ = some (.int .u64 (b1 : Int)) := by subst hW; go_simp
  have Hb0 := Lib.hid hb0; have Hz := Lib.hid hz
  clear hW hb0
  have HS := Lib.hid hS
  obtain ⟨f0, f1, f2, f3, f4, f5, f6, f7, f8, f9, f10, f11, f12, f13, f14, f15, f16, f17, f18, f19, f20, f21, f22, f23⟩ := hS
  have hle : w.heap.size + 1 + 1 + 1 ≤ w1.heap.size := by omega
  clear hz
  go_cut [7, 8] (fun s7 s8 wx => ∃ g7 g8 : Nat, s7 = .pointer (some ⟨g7, 0, none⟩) ∧ s8 = .pointer (some ⟨g8, 0, none⟩) ∧ g7 < wx.heap.size ∧ g8 < wx.heap.size ∧ ClsAt wx g7 (a.with b0) ∧ ClsAt wx g8 (b.with b1) ∧ Below w1.heap.size w1 wx)
  case first =>
    have ne1 : ¬ w1.heap.size = w.heap.size := by omega
    have ne2 : ¬ w.heap.size = w1.heap.size := by omega
    have ne3 : ¬ w1.heap.size = w.heap.size + 1 := by omega
    have ne4 : ¬ w1.heap.size = w.heap.size + 1 + 1 := by omega
    go_region_held3 (fun w' => w'.cell? ⟨w.heap.size, 0, none⟩ = some (.int .i64 a.id) ∧ w'.cell? ⟨w.heap.size, 1, none⟩ = some (.int .i64 a.parent) ∧ w'.cell? ⟨w.heap.size, 2, none⟩ = some (.float .f64 a.share) ∧ w'.cell? ⟨w.heap.size, 3, none⟩ = some (.int .i64 a.prio) ∧ w'.cell? ⟨w.heap.size, 4, none⟩ = some (.int .i64 a.quantum) ∧ w'.cell? ⟨w.heap.size, 5, none⟩ = some (.int .i64 a.limit) ∧ w'.cell? ⟨w.heap.size, 6, none⟩ = some (.int .i64 a.weight) ∧ w'.cell? ⟨w.heap.size, 7, none⟩ = some (.int .i64 a.minIdle) ∧ w'.cell? ⟨w.heap.size, 8, none⟩ = some (.int .i64 a.maxIdle) ∧ w'.cell? ⟨w.heap.size, 9, none⟩ = some (.bool a.bounded) ∧ w'.cell? ⟨w.heap.size, 10, none⟩ = some (.bool a.isolated) ∧ w'.cell? ⟨(w.heap.size + 1), 0, none⟩ = some (.int .i64 b.id) ∧ w'.cell? ⟨(w.heap.size + 1), 1, none⟩ = some (.int .i64 b.parent) ∧ w'.cell? ⟨(w.heap.size + 1), 2, none⟩ = some (.float .f64 b.share) ∧ w'.cell? ⟨(w.heap.size + 1), 3, none⟩ = some (.int .i64 b.prio) ∧ w'.cell? ⟨(w.heap.size + 1), 4, none⟩ = some (.int .i64 b.quantum) ∧ w'.cell? ⟨(w.heap.size + 1), 5, none⟩ = some (.int .i64 b.limit) ∧ w'.cell? ⟨(w.heap.size + 1), 6, none⟩ = some (.int .i64 b.weight) ∧ w'.cell? ⟨(w.heap.size + 1), 7, none⟩ = some (.int .i64 b.minIdle) ∧ w'.cell? ⟨(w.heap.size + 1), 8, none⟩ = some (.int .i64 b.maxIdle) ∧ w'.cell? ⟨(w.heap.size + 1), 9, none⟩ = some (.bool b.bounded) ∧ w'.cell? ⟨(w.heap.size + 1), 10, none⟩ = some (.bool b.isolated) ∧ w'.cell? ⟨w.heap.size + 1 + 1, 0, none⟩ = some (.int .u64 (b0 : Int)) ∧ w'.cell? ⟨w.heap.size + 1 + 1, 1, none⟩ = some (.int .u64 (b1 : Int))) ((refine (keepS HS.out ?_).2; (repeat' (first | assumption | exact Below.refl _ _ | refine Below.alloc ?_ ?_ _ | refine Below.setCell ?_ ?_ _ | refine Below.drew ?_ | omega | (simp; omega))))) (first | (go_at_call 38; refine (of_exact _ _ _).mono ?_; rintro e w' ⟨rfl, rfl⟩))
    all_goals
      go_wp2_with fail
      go_meet
      refine ⟨_, _, rfl, rfl, by simp; try omega, by simp; try omega, by unfold ClsAt Cls.with; go_simp, by unfold ClsAt Cls.with; go_simp, ?_⟩
      (repeat' (first | assumption | exact Below.refl _ _ | refine Below.alloc ?_ ?_ _ | refine Below.setCell ?_ ?_ _ | refine Below.drew ?_ | omega | (simp; omega) | simp))
  case rest =>
    obtain ⟨g7, g8, rfl, rfl, l7, l8, hc7, hc8, hb1⟩ := hcut
    have hx0 : (a.with b0).share < 18446744073709551616 := h0
    have hy0 : (b.with b1).share < 18446744073709551616 := h1
    have hbw : Below w.heap.size w wc := Hb0.out.trans (hb1.mono Hb0.out.size)
    clear hb1 f0 f1 f2 f3 f4 f5 f6 f7 f8 f9 f10 f11 f12 f13 f14 f15 f16 f17 f18 f19 f20 f21 f22 f23 HS hle
    generalize a.with b0 = x at *
    generalize b.with b1 = y at *
    obtain ⟨f0, f1, f2, f3, f4, f5, f6, f7, f8, f9, f10⟩ := hc7
    obtain ⟨k0, k1, k2, k3, k4, k5, k6, k7, k8, k9, k10⟩ := hc8
    have cr := right_any x hx0; have crr := refright_any x hx0
    have cu := unitsc_any x hx0; have cru := refunitsc_any x hx0
    have cs := same_c x y; have crs := refsame_c x y hx0 hy0
    have css := same_c x x; have cb := borrows_any x
    rw [sameS_self] at css
    have CR := Lib.hid cr; have CRR := Lib.hid crr; have CU := Lib.hid cu; have CRU := Lib.hid cru
    have CS := Lib.hid cs; have CRS := Lib.hid crs; have CSS := Lib.hid css; have CB := Lib.hid cb
    clear cr crr cu cru cs crs css cb
    have hok := @right_ok x
    have hul := units_le x.share hx0
    have CL := Lib.hid lives_any
    unfold Cls.agg at *
    obtain ⟨id, parent, share, prio, quantum, limit, weight, minIdle, maxIdle, bd, is⟩ := x
    simp only at *
    generalize rightS _ = rs at *
    generalize (unitsS share).1 = n at *
    generalize sameS _ _ = sm at *
    have l7' : g7 < wc.heap.size := l7
    by_cases h0 : rs = 0
    · obtain ⟨_, hn1⟩ := hok h0
      subst h0
      have e1 : (1 : Int) ≤ (n : Int) := by omega
      have e2 : (n : Int) ≤ 1048576 := by omega
      clear hok hul hn1
      go_wp2_with fail
      refine wp_region_mix wc.heap.size (fun i => if i = 1 then some (fun v => v = (.int .i64 0)) else if i = 3 then some (fun v => v = (.int .i64 0)) else if i = 7 then some (fun v => v = (.int .i64 (n : Int))) else if i = 9 then some (fun v => v = (.int .i64 (n : Int))) else if i = 15 then some (fun v => v = (.bool sm)) else if i = 18 then some (fun v => v = (.bool sm)) else if i = 24 then some (fun v => v = (.bool true)) else if i = 28 then some (fun v => v = (.bool (!bd && !is))) else if i = 41 then some (fun v => v = (.int .i64 0)) else if i = 45 then some (fun v => v = (.int .i64 (n : Int))) else if i = 49 then some (fun v => v = (.int .i64 (n : Int))) else if i = 55 then some (fun v => v = (.bool true)) else none) (by kernel_rfl) (by kernel_rfl) ?_
      repeat (refine wpRel_step (fun K hK => ?_); first | (refine opR_plain (by rfl) (by rfl) (by rfl) ?_; go_big_quiet_op; refine hK _ ?_; clear hK K) | (refine opR_skip (by rfl) ?_; refine hK _ ?_; clear hK K; simp only [Act.put, List.setIfInBounds_toArray, List.set_cons_succ, List.set_cons_zero]))
      refine wpRel_step (fun K hK => ?_)
      refine opR_rel (by rfl) (by rfl) (fun w hw => ?_) (fun v hv => ?_)
      · obtain ⟨u, rfl⟩ := hw
        go_simp
        refine (CR.out _).mono (fun e w' ⟨he, hb⟩ => ?_)
        subst he; first | exact ⟨_, rfl, rfl, mix_next (Nat.le_refl _) hb⟩ | exact ⟨rfl, mix_next (Nat.le_refl _) hb⟩
      obtain rfl : v = (.int .i64 0) := hv
      refine hK _ ?_; clear hK K
      simp only [Act.put, List.setIfInBounds_toArray, List.set_cons_succ, List.set_cons_zero]
      repeat (refine wpRel_step (fun K hK => ?_); first | (refine opR_plain (by rfl) (by rfl) (by rfl) ?_; go_big_quiet_op; refine hK _ ?_; clear hK K) | (refine opR_skip (by rfl) ?_; refine hK _ ?_; clear hK K; simp only [Act.put, List.setIfInBounds_toArray, List.set_cons_succ, List.set_cons_zero]))
      refine wpRel_step (fun K hK => ?_)
      refine opR_rel (by rfl) (by rfl) (fun w hw => ?_) (fun v hv => ?_)
      · obtain ⟨u, rfl⟩ := hw
        go_simp
        refine (CRR.out _).mono (fun e w' ⟨he, hb⟩ => ?_)
        subst he; first | exact ⟨_, rfl, rfl, mix_next (Nat.le_refl _) hb⟩ | exact ⟨rfl, mix_next (Nat.le_refl _) hb⟩
      obtain rfl : v = (.int .i64 0) := hv
      refine hK _ ?_; clear hK K
      simp only [Act.put, List.setIfInBounds_toArray, List.set_cons_succ, List.set_cons_zero]
      repeat (refine wpRel_step (fun K hK => ?_); first | (refine opR_plain (by rfl) (by rfl) (by rfl) ?_; go_big_quiet_op; refine hK _ ?_; clear hK K) | (refine opR_skip (by rfl) ?_; refine hK _ ?_; clear hK K; simp only [Act.put, List.setIfInBounds_toArray, List.set_cons_succ, List.set_cons_zero]))
      refine wpRel_step (fun K hK => ?_)
      refine opR_rel (by rfl) (by rfl) (fun w hw => ?_) (fun v hv => ?_)
      · obtain ⟨u, rfl⟩ := hw
        go_simp
        refine (CU.out _).mono (fun e w' ⟨he, hb⟩ => ?_)
        subst he; first | exact ⟨_, rfl, rfl, mix_next (Nat.le_refl _) hb⟩ | exact ⟨rfl, mix_next (Nat.le_refl _) hb⟩
      obtain rfl : v = (.int .i64 (n : Int)) := hv
      refine hK _ ?_; clear hK K
      simp only [Act.put, List.setIfInBounds_toArray, List.set_cons_succ, List.set_cons_zero]
      repeat (refine wpRel_step (fun K hK => ?_); first | (refine opR_plain (by rfl) (by rfl) (by rfl) ?_; go_big_quiet_op; refine hK _ ?_; clear hK K) | (refine opR_skip (by rfl) ?_; refine hK _ ?_; clear hK K; simp only [Act.put, List.setIfInBounds_toArray, List.set_cons_succ, List.set_cons_zero]))
      refine wpRel_step (fun K hK => ?_)
      refine opR_rel (by rfl) (by rfl) (fun w hw => ?_) (fun v hv => ?_)
      · obtain ⟨u, rfl⟩ := hw
        go_simp
        refine (CRU.out _).mono (fun e w' ⟨he, hb⟩ => ?_)
        subst he; first | exact ⟨_, rfl, rfl, mix_next (Nat.le_refl _) hb⟩ | exact ⟨rfl, mix_next (Nat.le_refl _) hb⟩
      obtain rfl : v = (.int .i64 (n : Int)) := hv
      refine hK _ ?_; clear hK K
      simp only [Act.put, List.setIfInBounds_toArray, List.set_cons_succ, List.set_cons_zero]
      repeat (refine wpRel_step (fun K hK => ?_); first | (refine opR_plain (by rfl) (by rfl) (by rfl) ?_; go_big_quiet_op; refine hK _ ?_; clear hK K) | (refine opR_skip (by rfl) ?_; refine hK _ ?_; clear hK K; simp only [Act.put, List.setIfInBounds_toArray, List.set_cons_succ, List.set_cons_zero]))
      refine wpRel_step (fun K hK => ?_)
      refine opR_rel (by rfl) (by rfl) (fun w hw => ?_) (fun v hv => ?_)
      · obtain ⟨u, rfl⟩ := hw
        go_simp
        refine (CS.out _).mono (fun e w' ⟨he, hb⟩ => ?_)
        subst he; first | exact ⟨_, rfl, rfl, mix_next (Nat.le_refl _) hb⟩ | exact ⟨rfl, mix_next (Nat.le_refl _) hb⟩
      obtain rfl : v = (.bool sm) := hv
      refine hK _ ?_; clear hK K
      simp only [Act.put, List.setIfInBounds_toArray, List.set_cons_succ, List.set_cons_zero]
      repeat (refine wpRel_step (fun K hK => ?_); first | (refine opR_plain (by rfl) (by rfl) (by rfl) ?_; go_big_quiet_op; refine hK _ ?_; clear hK K) | (refine opR_skip (by rfl) ?_; refine hK _ ?_; clear hK K; simp only [Act.put, List.setIfInBounds_toArray, List.set_cons_succ, List.set_cons_zero]))
      refine wpRel_step (fun K hK => ?_)
      refine opR_rel (by rfl) (by rfl) (fun w hw => ?_) (fun v hv => ?_)
      · obtain ⟨u, rfl⟩ := hw
        go_simp
        refine (CRS.out _).mono (fun e w' ⟨he, hb⟩ => ?_)
        subst he; first | exact ⟨_, rfl, rfl, mix_next (Nat.le_refl _) hb⟩ | exact ⟨rfl, mix_next (Nat.le_refl _) hb⟩
      obtain rfl : v = (.bool sm) := hv
      refine hK _ ?_; clear hK K
      simp only [Act.put, List.setIfInBounds_toArray, List.set_cons_succ, List.set_cons_zero]
      repeat (refine wpRel_step (fun K hK => ?_); first | (refine opR_plain (by rfl) (by rfl) (by rfl) ?_; go_big_quiet_op; refine hK _ ?_; clear hK K) | (refine opR_skip (by rfl) ?_; refine hK _ ?_; clear hK K; simp only [Act.put, List.setIfInBounds_toArray, List.set_cons_succ, List.set_cons_zero]))
      refine wpRel_step (fun K hK => ?_)
      refine opR_rel (by rfl) (by rfl) (fun w hw => ?_) (fun v hv => ?_)
      · obtain ⟨u, rfl⟩ := hw
        go_simp
        refine (CSS.out _).mono (fun e w' ⟨he, hb⟩ => ?_)
        subst he; first | exact ⟨_, rfl, rfl, mix_next (Nat.le_refl _) hb⟩ | exact ⟨rfl, mix_next (Nat.le_refl _) hb⟩
      obtain rfl : v = (.bool true) := hv
      refine hK _ ?_; clear hK K
      simp only [Act.put, List.setIfInBounds_toArray, List.set_cons_succ, List.set_cons_zero]
      repeat (refine wpRel_step (fun K hK => ?_); first | (refine opR_plain (by rfl) (by rfl) (by rfl) ?_; go_big_quiet_op; refine hK _ ?_; clear hK K) | (refine opR_skip (by rfl) ?_; refine hK _ ?_; clear hK K; simp only [Act.put, List.setIfInBounds_toArray, List.set_cons_succ, List.set_cons_zero]))
      refine wpRel_step (fun K hK => ?_)
      refine opR_rel (by rfl) (by rfl) (fun w hw => ?_) (fun v hv => ?_)
      · obtain ⟨u, rfl⟩ := hw
        go_simp
        refine (CB.out _).mono (fun e w' ⟨he, hb⟩ => ?_)
        subst he; first | exact ⟨_, rfl, rfl, mix_next (Nat.le_refl _) hb⟩ | exact ⟨rfl, mix_next (Nat.le_refl _) hb⟩
      obtain rfl : v = (.bool (!bd && !is)) := hv
      refine hK _ ?_; clear hK K
      simp only [Act.put, List.setIfInBounds_toArray, List.set_cons_succ, List.set_cons_zero]
      cases bd <;> cases is
      all_goals
        repeat (refine wpRel_step (fun K hK => ?_); first | (refine opR_plain (by rfl) (by rfl) (by rfl) ?_; go_big_quiet_op; refine hK _ ?_; clear hK K) | (refine opR_skip (by rfl) ?_; refine hK _ ?_; clear hK K; simp only [Act.put, List.setIfInBounds_toArray, List.set_cons_succ, List.set_cons_zero]))
        refine wpRel_step (fun K hK => ?_)
        refine opR_rel (by rfl) (by rfl) (fun w hw => ?_) (fun v hv => ?_)
        · obtain ⟨u, rfl⟩ := hw
          go_simp
          refine (CR.out _).mono (fun e w' ⟨he, hb⟩ => ?_)
          subst he; first | exact ⟨_, rfl, rfl, mix_next (Nat.le_refl _) hb⟩ | exact ⟨rfl, mix_next (Nat.le_refl _) hb⟩
        obtain rfl : v = (.int .i64 0) := hv
        refine hK _ ?_; clear hK K
        simp only [Act.put, List.setIfInBounds_toArray, List.set_cons_succ, List.set_cons_zero]
        repeat (refine wpRel_step (fun K hK => ?_); first | (refine opR_plain (by rfl) (by rfl) (by rfl) ?_; go_big_quiet_op; refine hK _ ?_; clear hK K) | (refine opR_skip (by rfl) ?_; refine hK _ ?_; clear hK K; simp only [Act.put, List.setIfInBounds_toArray, List.set_cons_succ, List.set_cons_zero]))
        refine wpRel_step (fun K hK => ?_)
        refine opR_rel (by rfl) (by rfl) (fun w hw => ?_) (fun v hv => ?_)
        · obtain ⟨u, rfl⟩ := hw
          go_simp
          refine (CU.out _).mono (fun e w' ⟨he, hb⟩ => ?_)
          subst he; first | exact ⟨_, rfl, rfl, mix_next (Nat.le_refl _) hb⟩ | exact ⟨rfl, mix_next (Nat.le_refl _) hb⟩
        obtain rfl : v = (.int .i64 (n : Int)) := hv
        refine hK _ ?_; clear hK K
        simp only [Act.put, List.setIfInBounds_toArray, List.set_cons_succ, List.set_cons_zero]
        repeat (refine wpRel_step (fun K hK => ?_); first | (refine opR_plain (by rfl) (by rfl) (by rfl) ?_; go_big_quiet_op; refine hK _ ?_; clear hK K) | (refine opR_skip (by rfl) ?_; refine hK _ ?_; clear hK K; simp only [Act.put, List.setIfInBounds_toArray, List.set_cons_succ, List.set_cons_zero]))
        refine wpRel_step (fun K hK => ?_)
        refine opR_rel (by rfl) (by rfl) (fun w hw => ?_) (fun v hv => ?_)
        · obtain ⟨u, rfl⟩ := hw
          go_simp
          refine (CU.out _).mono (fun e w' ⟨he, hb⟩ => ?_)
          subst he; first | exact ⟨_, rfl, rfl, mix_next (Nat.le_refl _) hb⟩ | exact ⟨rfl, mix_next (Nat.le_refl _) hb⟩
        obtain rfl : v = (.int .i64 (n : Int)) := hv
        refine hK _ ?_; clear hK K
        simp only [Act.put, List.setIfInBounds_toArray, List.set_cons_succ, List.set_cons_zero]
        repeat (refine wpRel_step (fun K hK => ?_); first | (refine opR_plain (by rfl) (by rfl) (by rfl) ?_; go_big_quiet_op; refine hK _ ?_; clear hK K) | (refine opR_skip (by rfl) ?_; refine hK _ ?_; clear hK K; simp only [Act.put, List.setIfInBounds_toArray, List.set_cons_succ, List.set_cons_zero]))
        refine wpRel_step (fun K hK => ?_)
        refine opR_rel (by rfl) (by rfl) (fun w hw => ?_) (fun v hv => ?_)
        · obtain ⟨u, rfl⟩ := hw
          go_simp
          refine (CL.out _).mono (fun e w' ⟨he, hb⟩ => ?_)
          subst he; first | exact ⟨_, rfl, rfl, mix_next (Nat.le_refl _) hb⟩ | exact ⟨rfl, mix_next (Nat.le_refl _) hb⟩
        obtain rfl : v = (.bool true) := hv
        refine hK _ ?_; clear hK K
        simp only [Act.put, List.setIfInBounds_toArray, List.set_cons_succ, List.set_cons_zero]
        repeat (refine wpRel_step (fun K hK => ?_); first | (refine opR_plain (by rfl) (by rfl) (by rfl) ?_; go_big_quiet_op; refine hK _ ?_; clear hK K) | (refine opR_skip (by rfl) ?_; refine hK _ ?_; clear hK K; simp only [Act.put, List.setIfInBounds_toArray, List.set_cons_succ, List.set_cons_zero]))
        refine wpRel_nil ?_
        intro w2 hb2
        go_wp2_with fail
        go_ret
        exact ⟨rfl, hbw.trans (hb2.mono hbw.size)⟩
    · have e0 : (rs != 0) = true := bne_iff_ne.2 h0
      clear hok hul h0
      go_wp2_with fail
      refine wp_region_mix wc.heap.size (fun i => if i = 1 then some (fun v => v = (.int .i64 rs)) else if i = 3 then some (fun v => v = (.int .i64 rs)) else if i = 7 then some (fun v => v = (.int .i64 (n : Int))) else if i = 9 then some (fun v => v = (.int .i64 (n : Int))) else if i = 15 then some (fun v => v = (.bool sm)) else if i = 18 then some (fun v => v = (.bool sm)) else if i = 24 then some (fun v => v = (.bool true)) else if i = 28 then some (fun v => v = (.bool (!bd && !is))) else if i = 41 then some (fun v => v = (.int .i64 rs)) else if i = 45 then some (fun v => v = (.int .i64 (n : Int))) else if i = 49 then some (fun v => v = (.int .i64 (n : Int))) else if i = 55 then some (fun v => v = (.bool true)) else none) (by kernel_rfl) (by kernel_rfl) ?_
      repeat (refine wpRel_step (fun K hK => ?_); first | (refine opR_plain (by rfl) (by rfl) (by rfl) ?_; go_big_quiet_op; refine hK _ ?_; clear hK K) | (refine opR_skip (by rfl) ?_; refine hK _ ?_; clear hK K; simp only [Act.put, List.setIfInBounds_toArray, List.set_cons_succ, List.set_cons_zero]))
      refine wpRel_step (fun K hK => ?_)
      refine opR_rel (by rfl) (by rfl) (fun w hw => ?_) (fun v hv => ?_)
      · obtain ⟨u, rfl⟩ := hw
        go_simp
        refine (CR.out _).mono (fun e w' ⟨he, hb⟩ => ?_)
        subst he; first | exact ⟨_, rfl, rfl, mix_next (Nat.le_refl _) hb⟩ | exact ⟨rfl, mix_next (Nat.le_refl _) hb⟩
      obtain rfl : v = (.int .i64 rs) := hv
      refine hK _ ?_; clear hK K
      simp only [Act.put, List.setIfInBounds_toArray, List.set_cons_succ, List.set_cons_zero]
      repeat (refine wpRel_step (fun K hK => ?_); first | (refine opR_plain (by rfl) (by rfl) (by rfl) ?_; go_big_quiet_op; refine hK _ ?_; clear hK K) | (refine opR_skip (by rfl) ?_; refine hK _ ?_; clear hK K; simp only [Act.put, List.setIfInBounds_toArray, List.set_cons_succ, List.set_cons_zero]))
      refine wpRel_step (fun K hK => ?_)
      refine opR_rel (by rfl) (by rfl) (fun w hw => ?_) (fun v hv => ?_)
      · obtain ⟨u, rfl⟩ := hw
        go_simp
        refine (CRR.out _).mono (fun e w' ⟨he, hb⟩ => ?_)
        subst he; first | exact ⟨_, rfl, rfl, mix_next (Nat.le_refl _) hb⟩ | exact ⟨rfl, mix_next (Nat.le_refl _) hb⟩
      obtain rfl : v = (.int .i64 rs) := hv
      refine hK _ ?_; clear hK K
      simp only [Act.put, List.setIfInBounds_toArray, List.set_cons_succ, List.set_cons_zero]
      repeat (refine wpRel_step (fun K hK => ?_); first | (refine opR_plain (by rfl) (by rfl) (by rfl) ?_; go_big_quiet_op; refine hK _ ?_; clear hK K) | (refine opR_skip (by rfl) ?_; refine hK _ ?_; clear hK K; simp only [Act.put, List.setIfInBounds_toArray, List.set_cons_succ, List.set_cons_zero]))
      refine wpRel_step (fun K hK => ?_)
      refine opR_rel (by rfl) (by rfl) (fun w hw => ?_) (fun v hv => ?_)
      · obtain ⟨u, rfl⟩ := hw
        go_simp
        refine (CU.out _).mono (fun e w' ⟨he, hb⟩ => ?_)
        subst he; first | exact ⟨_, rfl, rfl, mix_next (Nat.le_refl _) hb⟩ | exact ⟨rfl, mix_next (Nat.le_refl _) hb⟩
      obtain rfl : v = (.int .i64 (n : Int)) := hv
      refine hK _ ?_; clear hK K
      simp only [Act.put, List.setIfInBounds_toArray, List.set_cons_succ, List.set_cons_zero]
      repeat (refine wpRel_step (fun K hK => ?_); first | (refine opR_plain (by rfl) (by rfl) (by rfl) ?_; go_big_quiet_op; refine hK _ ?_; clear hK K) | (refine opR_skip (by rfl) ?_; refine hK _ ?_; clear hK K; simp only [Act.put, List.setIfInBounds_toArray, List.set_cons_succ, List.set_cons_zero]))
      refine wpRel_step (fun K hK => ?_)
      refine opR_rel (by rfl) (by rfl) (fun w hw => ?_) (fun v hv => ?_)
      · obtain ⟨u, rfl⟩ := hw
        go_simp
        refine (CRU.out _).mono (fun e w' ⟨he, hb⟩ => ?_)
        subst he; first | exact ⟨_, rfl, rfl, mix_next (Nat.le_refl _) hb⟩ | exact ⟨rfl, mix_next (Nat.le_refl _) hb⟩
      obtain rfl : v = (.int .i64 (n : Int)) := hv
      refine hK _ ?_; clear hK K
      simp only [Act.put, List.setIfInBounds_toArray, List.set_cons_succ, List.set_cons_zero]
      repeat (refine wpRel_step (fun K hK => ?_); first | (refine opR_plain (by rfl) (by rfl) (by rfl) ?_; go_big_quiet_op; refine hK _ ?_; clear hK K) | (refine opR_skip (by rfl) ?_; refine hK _ ?_; clear hK K; simp only [Act.put, List.setIfInBounds_toArray, List.set_cons_succ, List.set_cons_zero]))
      refine wpRel_step (fun K hK => ?_)
      refine opR_rel (by rfl) (by rfl) (fun w hw => ?_) (fun v hv => ?_)
      · obtain ⟨u, rfl⟩ := hw
        go_simp
        refine (CS.out _).mono (fun e w' ⟨he, hb⟩ => ?_)
        subst he; first | exact ⟨_, rfl, rfl, mix_next (Nat.le_refl _) hb⟩ | exact ⟨rfl, mix_next (Nat.le_refl _) hb⟩
      obtain rfl : v = (.bool sm) := hv
      refine hK _ ?_; clear hK K
      simp only [Act.put, List.setIfInBounds_toArray, List.set_cons_succ, List.set_cons_zero]
      repeat (refine wpRel_step (fun K hK => ?_); first | (refine opR_plain (by rfl) (by rfl) (by rfl) ?_; go_big_quiet_op; refine hK _ ?_; clear hK K) | (refine opR_skip (by rfl) ?_; refine hK _ ?_; clear hK K; simp only [Act.put, List.setIfInBounds_toArray, List.set_cons_succ, List.set_cons_zero]))
      refine wpRel_step (fun K hK => ?_)
      refine opR_rel (by rfl) (by rfl) (fun w hw => ?_) (fun v hv => ?_)
      · obtain ⟨u, rfl⟩ := hw
        go_simp
        refine (CRS.out _).mono (fun e w' ⟨he, hb⟩ => ?_)
        subst he; first | exact ⟨_, rfl, rfl, mix_next (Nat.le_refl _) hb⟩ | exact ⟨rfl, mix_next (Nat.le_refl _) hb⟩
      obtain rfl : v = (.bool sm) := hv
      refine hK _ ?_; clear hK K
      simp only [Act.put, List.setIfInBounds_toArray, List.set_cons_succ, List.set_cons_zero]
      repeat (refine wpRel_step (fun K hK => ?_); first | (refine opR_plain (by rfl) (by rfl) (by rfl) ?_; go_big_quiet_op; refine hK _ ?_; clear hK K) | (refine opR_skip (by rfl) ?_; refine hK _ ?_; clear hK K; simp only [Act.put, List.setIfInBounds_toArray, List.set_cons_succ, List.set_cons_zero]))
      refine wpRel_step (fun K hK => ?_)
      refine opR_rel (by rfl) (by rfl) (fun w hw => ?_) (fun v hv => ?_)
      · obtain ⟨u, rfl⟩ := hw
        go_simp
        refine (CSS.out _).mono (fun e w' ⟨he, hb⟩ => ?_)
        subst he; first | exact ⟨_, rfl, rfl, mix_next (Nat.le_refl _) hb⟩ | exact ⟨rfl, mix_next (Nat.le_refl _) hb⟩
      obtain rfl : v = (.bool true) := hv
      refine hK _ ?_; clear hK K
      simp only [Act.put, List.setIfInBounds_toArray, List.set_cons_succ, List.set_cons_zero]
      repeat (refine wpRel_step (fun K hK => ?_); first | (refine opR_plain (by rfl) (by rfl) (by rfl) ?_; go_big_quiet_op; refine hK _ ?_; clear hK K) | (refine opR_skip (by rfl) ?_; refine hK _ ?_; clear hK K; simp only [Act.put, List.setIfInBounds_toArray, List.set_cons_succ, List.set_cons_zero]))
      refine wpRel_step (fun K hK => ?_)
      refine opR_rel (by rfl) (by rfl) (fun w hw => ?_) (fun v hv => ?_)
      · obtain ⟨u, rfl⟩ := hw
        go_simp
        refine (CB.out _).mono (fun e w' ⟨he, hb⟩ => ?_)
        subst he; first | exact ⟨_, rfl, rfl, mix_next (Nat.le_refl _) hb⟩ | exact ⟨rfl, mix_next (Nat.le_refl _) hb⟩
      obtain rfl : v = (.bool (!bd && !is)) := hv
      refine hK _ ?_; clear hK K
      simp only [Act.put, List.setIfInBounds_toArray, List.set_cons_succ, List.set_cons_zero]
      cases bd <;> cases is
      all_goals
        repeat (refine wpRel_step (fun K hK => ?_); first | (refine opR_plain (by rfl) (by rfl) (by rfl) ?_; go_big_quiet_op; refine hK _ ?_; clear hK K) | (refine opR_skip (by rfl) ?_; refine hK _ ?_; clear hK K; simp only [Act.put, List.setIfInBounds_toArray, List.set_cons_succ, List.set_cons_zero]))
        refine wpRel_step (fun K hK => ?_)
        refine opR_rel (by rfl) (by rfl) (fun w hw => ?_) (fun v hv => ?_)
        · obtain ⟨u, rfl⟩ := hw
          go_simp
          refine (CR.out _).mono (fun e w' ⟨he, hb⟩ => ?_)
          subst he; first | exact ⟨_, rfl, rfl, mix_next (Nat.le_refl _) hb⟩ | exact ⟨rfl, mix_next (Nat.le_refl _) hb⟩
        obtain rfl : v = (.int .i64 rs) := hv
        refine hK _ ?_; clear hK K
        simp only [Act.put, List.setIfInBounds_toArray, List.set_cons_succ, List.set_cons_zero]
        repeat (refine wpRel_step (fun K hK => ?_); first | (refine opR_plain (by rfl) (by rfl) (by rfl) ?_; go_big_quiet_op; refine hK _ ?_; clear hK K) | (refine opR_skip (by rfl) ?_; refine hK _ ?_; clear hK K; simp only [Act.put, List.setIfInBounds_toArray, List.set_cons_succ, List.set_cons_zero]))
        refine wpRel_step (fun K hK => ?_)
        refine opR_rel (by rfl) (by rfl) (fun w hw => ?_) (fun v hv => ?_)
        · obtain ⟨u, rfl⟩ := hw
          go_simp
          refine (CL.out _).mono (fun e w' ⟨he, hb⟩ => ?_)
          subst he; first | exact ⟨_, rfl, rfl, mix_next (Nat.le_refl _) hb⟩ | exact ⟨rfl, mix_next (Nat.le_refl _) hb⟩
        obtain rfl : v = (.bool true) := hv
        refine hK _ ?_; clear hK K
        simp only [Act.put, List.setIfInBounds_toArray, List.set_cons_succ, List.set_cons_zero]
        repeat (refine wpRel_step (fun K hK => ?_); first | (refine opR_plain (by rfl) (by rfl) (by rfl) ?_; go_big_quiet_op; refine hK _ ?_; clear hK K) | (refine opR_skip (by rfl) ?_; refine hK _ ?_; clear hK K; simp only [Act.put, List.setIfInBounds_toArray, List.set_cons_succ, List.set_cons_zero]))
        refine wpRel_nil ?_
        intro w2 hb2
        go_wp2_with fail
        go_ret
        exact ⟨rfl, hbw.trans (hb2.mono hbw.size)⟩

end Go.Proofs.Ytdoemgccmjddcaa.Cl
