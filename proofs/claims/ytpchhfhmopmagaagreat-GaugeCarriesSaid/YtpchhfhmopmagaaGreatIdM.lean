/- sat.Add; ewma: Floor, Step, Away. idle: right, held, New, Sent, Carry, Over. idle.New; the states as elements of a map. -/
import Derived.Test.YtpchhfhmopmagaaGreatSrM
import Derived.Test.YtpchhfhmopmagaaGreatSsM
import Derived.Test.YtpchhfhmopmagaaGreatTr5
import Derived.Test.YtpchhfhmopmagaaGreatLxM
import Derived.Deep.RegionHeld3
set_option linter.unusedVariables false
set_option linter.unusedSimpArgs false
/- sat.Add; ewma: Floor, Step, Away. -/
namespace Go.Proofs.YtpchhfhmopmagaaGreat.Id
open Go.RowKit Go.Maps Wd Li St Sr

def addS (a b : Int) : Int := hold (hold a + hold b)
theorem wf64 {n : Int} (h1 : -9223372036854775808 ≤ n) (h2 : n < 9223372036854775808) : (Lit.int .i64 n).wf = true := WalkArith.wf_i64 (by omega)
set_option maxRecDepth 20000 in
theorem add_c (a b : Int) (w : World) : Calls Tryz.prog 142 #[.int .i64 a, .int .i64 b] w fun e w' => e = .returned (.int .i64 (addS a b)) ∧ w = w' := by
  have h1 := hold_ge a; have h2 := hold_le a; have h3 := hold_ge b; have h4 := hold_le b
  unfold addS
  go_enter Tryz.func142, Tryz.ntmps142
  go_wp2_with (go_at_call 139; (with_reducible refine (hold_c _ _).mono ?_); rintro e w' ⟨rfl, rfl⟩)
  go_ret
  exact ⟨rfl, rfl⟩
def weightB (w : Int) : Bool := decide (0 ≤ w) && decide (w ≤ 16)
theorem weight_t {w : Int} (h : 0 ≤ w ∧ w ≤ 16) : weightB w = true := by unfold weightB; simp [h.1, h.2]
theorem weight_f {w : Int} (h : ¬ (0 ≤ w ∧ w ≤ 16)) : weightB w = false := by
  unfold weightB
  by_cases h1 : 0 ≤ w
  · have : ¬ w ≤ 16 := fun h2 => h ⟨h1, h2⟩
    simp [this]
  · simp [h1]
set_option maxRecDepth 20000 in
theorem weight_c (n : Int) (w : World) : Calls Tryz.prog 206 #[.int .i64 n] w fun e w' => e = .returned (.bool (weightB n)) ∧ w = w' := by
  by_cases h1 : 0 ≤ n
  · by_cases h2 : n ≤ 16
    · have hb := Lib.hid (weight_t ⟨h1, h2⟩)
      go_enter Tryz.func206, Tryz.ntmps206
      go_wp2
      go_ret
      exact ⟨by rw [hb.out]; (try simp [h1, h2]); (try rfl), rfl⟩
    · have hb := Lib.hid (weight_f (w := n) (fun h => h2 h.2))
      go_enter Tryz.func206, Tryz.ntmps206
      go_wp2
      go_ret
      exact ⟨by rw [hb.out]; (try simp [h1, h2]); (try rfl), rfl⟩
  · have hb := Lib.hid (weight_f (w := n) (fun h => h1 h.1))
    go_enter Tryz.func206, Tryz.ntmps206
    go_wp2
    go_ret
    exact ⟨by rw [hb.out]; (try simp [h1]); (try rfl), rfl⟩
def floorS (x w : Int) : Int := if w < 0 ∨ 62 < w then 0 else x / 2 ^ w.toNat
set_option maxRecDepth 20000 in
theorem floor_c (x n : Int) (w : World) : Calls Tryz.prog 207 #[.int .i64 x, .int .i64 n] w fun e w' => e = .returned (.int .i64 (floorS x n)) ∧ w = w' := by
  by_cases h1 : n < 0
  · have hf := Lib.hid (show floorS x n = 0 from if_pos (.inl h1))
    go_enter Tryz.func207, Tryz.ntmps207
    go_wp2
    go_ret
    exact ⟨by rw [hf.out]; rfl, rfl⟩
  · by_cases h2 : 62 < n
    · have hf := Lib.hid (show floorS x n = 0 from if_pos (.inr h2))
      go_enter Tryz.func207, Tryz.ntmps207
      go_wp2
      go_ret
      exact ⟨by rw [hf.out]; rfl, rfl⟩
    · have hf := Lib.hid (show floorS x n = x / 2 ^ n.toNat from if_neg (by omega))
      have h3 : 0 ≤ n := by omega
      have h4 : n ≤ 64 := by omega
      go_enter Tryz.func207, Tryz.ntmps207
      go_wp2
      go_ret
      refine ⟨?_, rfl⟩
      rw [hf.out]
      try rfl
def stepS (avg x w : Int) : Int := if weightB w = true then addS avg (floorS (subS x avg) w) else hold avg
theorem step_t {avg x w : Int} (h : weightB w = true) : stepS avg x w = addS avg (floorS (subS x avg) w) := if_pos h
theorem step_f {avg x w : Int} (h : weightB w = false) : stepS avg x w = hold avg := if_neg (by rw [h]; decide)
set_option maxRecDepth 20000 in
theorem step_c (avg x n : Int) (w : World) : Calls Tryz.prog 141 #[.int .i64 avg, .int .i64 x, .int .i64 n] w fun e w' => e = .returned (.int .i64 (stepS avg x n)) ∧ w = w' := by
  cases hw : weightB n with
  | true =>
    rw [step_t hw]
    have HW := Lib.hid (weight_c n)
    rw [hw] at HW
    clear hw
    unfold addS
    have HA := Lib.hid (add_c avg (floorS (subS x avg) n))
    unfold addS at HA
    go_enter Tryz.func141, Tryz.ntmps141
    go_wp2_with (first
      | (go_at_call 206; (with_reducible refine (HW.out _).mono ?_); rintro e w' ⟨rfl, rfl⟩)
      | (go_at_call 138; (with_reducible refine (sub_c _ _ _).mono ?_); rintro e w' ⟨rfl, rfl⟩)
      | (go_at_call 207; (with_reducible refine (floor_c _ _ _).mono ?_); rintro e w' ⟨rfl, rfl⟩)
      | (go_at_call 142; (with_reducible refine (HA.out _).mono ?_); rintro e w' ⟨rfl, rfl⟩))
    go_ret
    exact ⟨rfl, rfl⟩
  | false =>
    rw [step_f hw]
    have HW := Lib.hid (weight_c n)
    rw [hw] at HW
    clear hw
    go_enter Tryz.func141, Tryz.ntmps141
    go_wp2_with (first
      | (go_at_call 206; (with_reducible refine (HW.out _).mono ?_); rintro e w' ⟨rfl, rfl⟩)
      | (go_at_call 139; (with_reducible refine (hold_c _ _).mono ?_); rintro e w' ⟨rfl, rfl⟩))
    go_ret
    exact ⟨rfl, rfl⟩
/-- 1 << w -/
def powS (w : Int) : Int := ((2 ^ w.toNat : Nat) : Int)
theorem powS_b {w : Int} (h : 0 ≤ w ∧ w ≤ 16) : 1 ≤ powS w ∧ powS w ≤ 65536 := by
  unfold powS
  have h1 : 2 ^ w.toNat ≤ 2 ^ 16 := Nat.pow_le_pow_right (by decide) (by omega)
  have h2 : 0 < 2 ^ w.toNat := Nat.pow_pos (by decide)
  have h3 : (2 : Nat) ^ 16 = 65536 := by decide
  omega
def awayS (avg w : Int) : Int := if weightB w = false ∨ 0 ≤ avg ∨ avg < -1099511627776 then 0 else -avg * (powS w - 1)
theorem away_mul {avg w : Int} (h : weightB w = true) (h1 : ¬ 0 ≤ avg) (h2 : ¬ avg < -1099511627776) : awayS avg w = -avg * (powS w - 1) := if_neg (by simp [h, h1, h2])
theorem away_no {avg w : Int} (h : weightB w = false ∨ 0 ≤ avg ∨ avg < -1099511627776) : awayS avg w = 0 := if_pos h
theorem weight_is {w : Int} (h : weightB w = true) : 0 ≤ w ∧ w ≤ 16 := by unfold weightB at h; simpa using h
set_option maxRecDepth 20000 in
theorem away_c (avg n : Int) (w : World) : Calls Tryz.prog 143 #[.int .i64 avg, .int .i64 n] w fun e w' => e = .returned (.int .i64 (awayS avg n)) ∧ w = w' := by
  have HW := Lib.hid (weight_c n)
  cases hw : weightB n with
  | false =>
    have hr := Lib.hid (away_no (avg := avg) (.inl hw))
    rw [hw] at HW
    clear hw
    go_enter Tryz.func143, Tryz.ntmps143
    go_wp2_with (go_at_call 206; (with_reducible refine (HW.out _).mono ?_); rintro e w' ⟨rfl, rfl⟩)
    go_ret
    exact ⟨by rw [hr.out]; rfl, rfl⟩
  | true =>
    by_cases h1 : 0 ≤ avg
    · have hr := Lib.hid (away_no (w := n) (.inr (.inl h1)))
      rw [hw] at HW
      clear hw
      go_enter Tryz.func143, Tryz.ntmps143
      go_wp2_with (go_at_call 206; (with_reducible refine (HW.out _).mono ?_); rintro e w' ⟨rfl, rfl⟩)
      go_ret
      exact ⟨by rw [hr.out]; rfl, rfl⟩
    · by_cases h2 : avg < -1099511627776
      · have hr := Lib.hid (away_no (w := n) (.inr (.inr h2)))
        rw [hw] at HW
        clear hw
        go_enter Tryz.func143, Tryz.ntmps143
        go_wp2_with (go_at_call 206; (with_reducible refine (HW.out _).mono ?_); rintro e w' ⟨rfl, rfl⟩)
        go_ret
        exact ⟨by rw [hr.out]; rfl, rfl⟩
      · have hr := Lib.hid (away_mul hw h1 h2)
        have hwi := weight_is hw
        have hp := powS_b hwi
        have hwf := Lib.hid (show (Lit.int .i64 (-avg * (powS n - 1))).wf = true from by
          have e1 : -avg * (powS n - 1) ≤ 1099511627776 * 65536 := Int.mul_le_mul (by omega) (by omega) (by omega) (by omega)
          have e2 : 0 ≤ -avg * (powS n - 1) := Int.mul_nonneg (by omega) (by omega)
          exact wf64 (by omega) (by omega))
        rw [hw] at HW
        clear hw
        have hn0 : 0 ≤ n := hwi.1
        have hn64 : n ≤ 64 := by omega
        go_enter Tryz.func143, Tryz.ntmps143
        go_wp2_with (go_at_call 206; (with_reducible refine (HW.out _).mono ?_); rintro e w' ⟨rfl, rfl⟩)
        go_ret
        refine ⟨?_, rfl⟩
        rw [hr.out]
        have e1 : wrap64 (2 ^ n.toNat) = powS n := by
          have e0 : (2 : Int) ^ n.toNat = powS n := by unfold powS; push_cast; rfl
          rw [e0]; unfold wrap64; omega
        have e2 : wrap64 (powS n - 1) = powS n - 1 := by unfold wrap64; omega
        have e3 : wrap64 (-avg * (powS n - 1)) = -avg * (powS n - 1) := by
          have := hwf.out
          have f1 : -avg * (powS n - 1) ≤ 1099511627776 * 65536 := Int.mul_le_mul (by omega) (by omega) (by omega) (by omega)
          have f2 : 0 ≤ -avg * (powS n - 1) := Int.mul_nonneg (by omega) (by omega)
          generalize -avg * (powS n - 1) = z at *
          unfold wrap64; omega
        show Ending.returned (Value.int .i64 (wrap64 (-avg * wrap64 (wrap64 (2 ^ n.toNat) - 1)))) = _
        rw [e1, e2, e3]
end Go.Proofs.YtpchhfhmopmagaaGreat.Id

/- idle: right, held, New, Sent, Carry, Over. -/
namespace Go.Proofs.YtpchhfhmopmagaaGreat.Id
open Go.RowKit Go.Maps Wd Li St Sr Go.Proofs.YtpchhfhmopmagaaGreat.Cl Go.Proofs.YtpchhfhmopmagaaGreat.So Go.Proofs.YtpchhfhmopmagaaGreat.Tr
attribute [local go_sem] run_store_float Lx.opX Rel.oneOk
attribute [local irreducible] Lx.wpX

/-- a class's state -/
structure S3 where
  l : Int
  a : Int
  u : Int
  deriving DecidableEq
def S3.cells (s : S3) : List Value := [.int .i64 s.l, .int .i64 s.a, .int .i64 s.u]
abbrev S3.agg (s : S3) : Value := .agg #[.int .i64 s.l, .int .i64 s.a, .int .i64 s.u]
def S3.nil : S3 := ⟨0, 0, 0⟩
def heldI (a : Int) (c : Cls) : Int := max c.minIdle (min a c.maxIdle)
def newI (c : Cls) (now : Int) : S3 := ⟨hold now, c.maxIdle, 0⟩
def sentA (s : S3) (c : Cls) (time now : Int) : Int := heldI (stepS s.a (subS (subS now s.l) time) c.weight) c
def sentI (s : S3) (c : Cls) (time now : Int) : S3 := ⟨hold now, sentA s c time now, if sentA s c time now < 0 then addS now (addS time (awayS (sentA s c time now) c.weight)) else 0⟩
def carryI (s : S3) (c : Cls) : S3 := ⟨s.l, heldI s.a c, s.u⟩
set_option maxRecDepth 20000 in
theorem iright_c (c : Cls) (hs : c.share < 18446744073709551616) (w : World) : Calls Tryz.prog 137 #[c.agg] w fun e w' => e = .returned (.bool (rightS c == 0)) ∧ Below w.heap.size w w' := by
  have HR := Lib.hid (right_any c hs)
  unfold Ret1 Cls.agg at HR
  generalize rightS c = r at *
  unfold Cls.agg
  have HB := Lib.hid ((Below.refl w.heap.size w).alloc (Nat.le_refl _) (.cells #[.int .i64 c.id, .int .i64 c.parent, .float .f64 c.share, .int .i64 c.prio, .int .i64 c.quantum, .int .i64 c.limit, .int .i64 c.weight, .int .i64 c.minIdle, .int .i64 c.maxIdle, .bool c.bounded, .bool c.isolated] 84))
  have hsz : (w.alloc (.cells #[.int .i64 c.id, .int .i64 c.parent, .float .f64 c.share, .int .i64 c.prio, .int .i64 c.quantum, .int .i64 c.limit, .int .i64 c.weight, .int .i64 c.minIdle, .int .i64 c.maxIdle, .bool c.bounded, .bool c.isolated] 84)).heap.size = w.heap.size + 1 := by simp
  go_enter Tryz.func137, Tryz.ntmps137
  go_wp2_with (go_at_call 185; (with_reducible refine (HR.out _).mono ?_); rintro e w' ⟨rfl, hb⟩; have HB1 := Lib.hid (HB.out.trans (hb.mono (by omega))); clear hb)
  go_ret
  exact ⟨rfl, HB1.out⟩
set_option maxRecDepth 20000 in
theorem held_c (a : Int) (c : Cls) (w : World) : Calls Tryz.prog 140 #[.int .i64 a, c.agg] w fun e w' => e = .returned (.int .i64 (heldI a c)) ∧ w' = w.alloc (.cells #[.int .i64 c.id, .int .i64 c.parent, .float .f64 c.share, .int .i64 c.prio, .int .i64 c.quantum, .int .i64 c.limit, .int .i64 c.weight, .int .i64 c.minIdle, .int .i64 c.maxIdle, .bool c.bounded, .bool c.isolated] 84) := by
  unfold heldI Cls.agg
  go_enter Tryz.func140, Tryz.ntmps140
  go_wp2
  go_ret
  exact ⟨rfl, rfl⟩
set_option maxRecDepth 20000 in
theorem over_c (s : S3) (now : Int) (w : World) : Calls Tryz.prog 88 #[s.agg, .int .i64 now] w fun e w' => e = .returned (.bool (decide (now < s.u))) ∧ Below w.heap.size w w' := by
  have HB := Lib.hid ((Below.refl w.heap.size w).alloc (Nat.le_refl _) (.cells #[.int .i64 s.l, .int .i64 s.a, .int .i64 s.u] 46))
  unfold S3.agg
  go_enter Tryz.func88, Tryz.ntmps88
  go_wp2
  go_ret
  exact ⟨rfl, HB.out⟩
theorem keepI {g : Nat} {l a : Int} {c : Cls} {w1 w' : World} (hS : w1.cell? ⟨g, 0, none⟩ = some (.int .i64 l) ∧ w1.cell? ⟨g, 1, none⟩ = some (.int .i64 a) ∧ w1.cell? ⟨g + 1, 0, none⟩ = some (.int .i64 c.id) ∧ w1.cell? ⟨g + 1, 1, none⟩ = some (.int .i64 c.parent) ∧ w1.cell? ⟨g + 1, 2, none⟩ = some (.float .f64 c.share) ∧ w1.cell? ⟨g + 1, 3, none⟩ = some (.int .i64 c.prio) ∧ w1.cell? ⟨g + 1, 4, none⟩ = some (.int .i64 c.quantum) ∧ w1.cell? ⟨g + 1, 5, none⟩ = some (.int .i64 c.limit) ∧ w1.cell? ⟨g + 1, 6, none⟩ = some (.int .i64 c.weight) ∧ w1.cell? ⟨g + 1, 7, none⟩ = some (.int .i64 c.minIdle) ∧ w1.cell? ⟨g + 1, 8, none⟩ = some (.int .i64 c.maxIdle) ∧ w1.cell? ⟨g + 1, 9, none⟩ = some (.bool c.bounded) ∧ w1.cell? ⟨g + 1, 10, none⟩ = some (.bool c.isolated)) (hg : g + 1 < w1.heap.size) (hb : Below w1.heap.size w1 w') : w'.cell? ⟨g, 0, none⟩ = some (.int .i64 l) ∧ w'.cell? ⟨g, 1, none⟩ = some (.int .i64 a) ∧ w'.cell? ⟨g + 1, 0, none⟩ = some (.int .i64 c.id) ∧ w'.cell? ⟨g + 1, 1, none⟩ = some (.int .i64 c.parent) ∧ w'.cell? ⟨g + 1, 2, none⟩ = some (.float .f64 c.share) ∧ w'.cell? ⟨g + 1, 3, none⟩ = some (.int .i64 c.prio) ∧ w'.cell? ⟨g + 1, 4, none⟩ = some (.int .i64 c.quantum) ∧ w'.cell? ⟨g + 1, 5, none⟩ = some (.int .i64 c.limit) ∧ w'.cell? ⟨g + 1, 6, none⟩ = some (.int .i64 c.weight) ∧ w'.cell? ⟨g + 1, 7, none⟩ = some (.int .i64 c.minIdle) ∧ w'.cell? ⟨g + 1, 8, none⟩ = some (.int .i64 c.maxIdle) ∧ w'.cell? ⟨g + 1, 9, none⟩ = some (.bool c.bounded) ∧ w'.cell? ⟨g + 1, 10, none⟩ = some (.bool c.isolated) := by
  obtain ⟨f', f, f0, f1, f2, f3, f4, f5, f6, f7, f8, f9, f10⟩ := hS
  have k := fun (p : Addr) (hp : p.block < w1.heap.size) => hb.cell hp
  exact ⟨(k _ (by simp; omega)).trans f', (k _ (by simp; omega)).trans f, (k _ hg).trans f0, (k _ hg).trans f1, (k _ hg).trans f2, (k _ hg).trans f3, (k _ hg).trans f4, (k _ hg).trans f5, (k _ hg).trans f6, (k _ hg).trans f7, (k _ hg).trans f8, (k _ hg).trans f9, (k _ hg).trans f10⟩
set_option maxRecDepth 20000 in
set_option maxHeartbeats 2000000 in
theorem sent_c (s : S3) (c : Cls) (hs : c.share < 18446744073709551616) (hr : rightS c = 0) (time now : Int) (w : World) :
    Calls Tryz.prog 64 #[s.agg, c.agg, .int .i64 time, .int .i64 now] w fun e w' => e = .returned (sentI s c time now).agg ∧ Below w.heap.size w w' := by
  have HR := Lib.hid (iright_c c hs)
  rw [hr] at HR
  have hX : sentI s c time now = ⟨hold now, sentA s c time now, if sentA s c time now < 0 then addS now (addS time (awayS (sentA s c time now) c.weight)) else 0⟩ := rfl
  have hA : sentA s c time now = heldI (stepS s.a (subS (subS now s.l) time) c.weight) c := rfl
  have HX := Lib.hid hX; have HA := Lib.hid hA
  clear hX hA
  have HH := Lib.hid (fun a u => held_c a c u)
  unfold Cls.agg at HR HH
  generalize sentI s c time now = X at *
  generalize sentA s c time now = A at *
  unfold S3.agg Cls.agg
  obtain ⟨v, hv⟩ : ∃ v, v = subS (subS now s.l) time := ⟨_, rfl⟩
  rw [← hv] at HA
  have HV := Lib.hid hv
  clear hv
  have h0 : ((w.alloc (.cells #[.int .i64 s.l, .int .i64 s.a, .int .i64 s.u] 46)).alloc (.cells #[.int .i64 c.id, .int .i64 c.parent, .float .f64 c.share, .int .i64 c.prio, .int .i64 c.quantum, .int .i64 c.limit, .int .i64 c.weight, .int .i64 c.minIdle, .int .i64 c.maxIdle, .bool c.bounded, .bool c.isolated] 84)).heap[w.heap.size]? = some (.cells #[.int .i64 s.l, .int .i64 s.a, .int .i64 s.u] 46 (0, 0)) := (Below.heap_alloc _ _ _ (by simp)).trans (heap_alloc_new _ _)
  have h1 : ((w.alloc (.cells #[.int .i64 s.l, .int .i64 s.a, .int .i64 s.u] 46)).alloc (.cells #[.int .i64 c.id, .int .i64 c.parent, .float .f64 c.share, .int .i64 c.prio, .int .i64 c.quantum, .int .i64 c.limit, .int .i64 c.weight, .int .i64 c.minIdle, .int .i64 c.maxIdle, .bool c.bounded, .bool c.isolated] 84)).heap[w.heap.size + 1]? = some (.cells #[.int .i64 c.id, .int .i64 c.parent, .float .f64 c.share, .int .i64 c.prio, .int .i64 c.quantum, .int .i64 c.limit, .int .i64 c.weight, .int .i64 c.minIdle, .int .i64 c.maxIdle, .bool c.bounded, .bool c.isolated] 84 (0, 0)) := by
    have := heap_alloc_new (w.alloc (.cells #[.int .i64 s.l, .int .i64 s.a, .int .i64 s.u] 46)) (.cells #[.int .i64 c.id, .int .i64 c.parent, .float .f64 c.share, .int .i64 c.prio, .int .i64 c.quantum, .int .i64 c.limit, .int .i64 c.weight, .int .i64 c.minIdle, .int .i64 c.maxIdle, .bool c.bounded, .bool c.isolated] 84)
    simpa using this
  have hb0 : Below w.heap.size w ((w.alloc (.cells #[.int .i64 s.l, .int .i64 s.a, .int .i64 s.u] 46)).alloc (.cells #[.int .i64 c.id, .int .i64 c.parent, .float .f64 c.share, .int .i64 c.prio, .int .i64 c.quantum, .int .i64 c.limit, .int .i64 c.weight, .int .i64 c.minIdle, .int .i64 c.maxIdle, .bool c.bounded, .bool c.isolated] 84)) := ((Below.refl _ w).alloc (Nat.le_refl _) _).alloc (by simp) _
  have hz0 : ((w.alloc (.cells #[.int .i64 s.l, .int .i64 s.a, .int .i64 s.u] 46)).alloc (.cells #[.int .i64 c.id, .int .i64 c.parent, .float .f64 c.share, .int .i64 c.prio, .int .i64 c.quantum, .int .i64 c.limit, .int .i64 c.weight, .int .i64 c.minIdle, .int .i64 c.maxIdle, .bool c.bounded, .bool c.isolated] 84)).heap.size = w.heap.size + 2 := by simp
  have H0 := Lib.hid h0; have H1 := Lib.hid h1; have HB0 := Lib.hid hb0; have HZ0 := Lib.hid hz0
  clear h0 h1 hb0 hz0
  go_enter Tryz.func64, Tryz.ntmps64
  go_upto_region 1 with fail
  generalize World.alloc (World.alloc w _) _ = W0 at *
  have hz := HZ0.out
  have hr2 := heap_alloc_new W0 (.cells #[.int .i64 0, .int .i64 0, .int .i64 0] 46)
  have hb2 := HB0.out.alloc HB0.out.size (.cells #[.int .i64 0, .int .i64 0, .int .i64 0] 46)
  have hz2 : (W0.alloc (.cells #[.int .i64 0, .int .i64 0, .int .i64 0] 46)).heap.size = W0.heap.size + 1 := by simp
  have g0 := (Below.heap_alloc W0 (.cells #[.int .i64 0, .int .i64 0, .int .i64 0] 46) w.heap.size (by omega)).trans H0.out
  have g1 := (Below.heap_alloc W0 (.cells #[.int .i64 0, .int .i64 0, .int .i64 0] 46) (w.heap.size + 1) (by omega)).trans H1.out
  generalize World.alloc W0 _ = W1 at *
  rw [hz] at hr2
  have e2 : w.heap.size + 1 + 1 = w.heap.size + 2 := rfl
  rw [e2]
  clear e2
  have hS : W1.cell? ⟨w.heap.size, 0, none⟩ = some (.int .i64 s.l) ∧ W1.cell? ⟨w.heap.size, 1, none⟩ = some (.int .i64 s.a) ∧ W1.cell? ⟨w.heap.size + 1, 0, none⟩ = some (.int .i64 c.id) ∧ W1.cell? ⟨w.heap.size + 1, 1, none⟩ = some (.int .i64 c.parent) ∧ W1.cell? ⟨w.heap.size + 1, 2, none⟩ = some (.float .f64 c.share) ∧ W1.cell? ⟨w.heap.size + 1, 3, none⟩ = some (.int .i64 c.prio) ∧ W1.cell? ⟨w.heap.size + 1, 4, none⟩ = some (.int .i64 c.quantum) ∧ W1.cell? ⟨w.heap.size + 1, 5, none⟩ = some (.int .i64 c.limit) ∧ W1.cell? ⟨w.heap.size + 1, 6, none⟩ = some (.int .i64 c.weight) ∧ W1.cell? ⟨w.heap.size + 1, 7, none⟩ = some (.int .i64 c.minIdle) ∧ W1.cell? ⟨w.heap.size + 1, 8, none⟩ = some (.int .i64 c.maxIdle) ∧ W1.cell? ⟨w.heap.size + 1, 9, none⟩ = some (.bool c.bounded) ∧ W1.cell? ⟨w.heap.size + 1, 10, none⟩ = some (.bool c.isolated) := ⟨cells_at g0 0 _ rfl, cells_at g0 1 _ rfl, cells_at g1 0 _ rfl, cells_at g1 1 _ rfl, cells_at g1 2 _ rfl, cells_at g1 3 _ rfl, cells_at g1 4 _ rfl, cells_at g1 5 _ rfl, cells_at g1 6 _ rfl, cells_at g1 7 _ rfl, cells_at g1 8 _ rfl, cells_at g1 9 _ rfl, cells_at g1 10 _ rfl⟩
  have HS := Lib.hid hS; have HR2 := Lib.hid hr2; have HB2 := Lib.hid hb2
  obtain ⟨f', f, f0, f1, f2, f3, f4, f5, f6, f7, f8, f9, f10⟩ := hS
  clear g0 g1 hr2 hb2 H0 H1 HB0 HZ0
  go_upto_region 3 with (go_at_call 137; (with_reducible refine (HR.out _).mono ?_); rintro e w1 ⟨rfl, hb⟩; have HB := Lib.hid hb; clear hb)
  have hS3 := keepI HS.out (by omega) HB.out
  have hr3 := (HB.out.block _ (show w.heap.size + 2 < W1.heap.size by omega)).trans HR2.out
  have hw1 := HB.out.size
  have HB3 := Lib.hid (HB2.out.trans (HB.out.mono HB2.out.size))
  clear f' f f0 f1 f2 f3 f4 f5 f6 f7 f8 f9 f10
  have HS3 := Lib.hid hS3; have HR3 := Lib.hid hr3
  obtain ⟨f', f, f0, f1, f2, f3, f4, f5, f6, f7, f8, f9, f10⟩ := hS3
  clear hr3 HS HR2 HB2 HB HR
  go_upto_region 4 with (go_at_call 138; (with_reducible refine (sub_c _ _ _).mono ?_); rintro e w' ⟨rfl, rfl⟩)
  rw [← HV.out]
  have ne1 : ¬ w1.heap.size = w.heap.size := by omega
  have ne2 : ¬ w1.heap.size = w.heap.size + 1 := by omega
  have ne3 : ¬ w1.heap.size = w.heap.size + 2 := by omega
  have hlt : w.heap.size + 1 < w1.heap.size := by omega
  have na : ¬ w.heap.size = w1.heap.size := by omega
  have nb : ¬ w.heap.size + 1 = w1.heap.size := by omega
  have nc : ¬ w.heap.size + 2 = w1.heap.size := by omega
  have nd : ¬ w.heap.size + 2 = w1.heap.size + 1 := by omega
  have nf : ¬ w1.heap.size + 1 = w.heap.size + 2 := by omega
  have ng : ¬ w.heap.size + 1 = w1.heap.size + 1 := by omega
  have q0 := cells_at HR3.out 0 _ rfl; have q1 := cells_at HR3.out 1 _ rfl; have q2 := cells_at HR3.out 2 _ rfl
  have z0 := frozen_at' HR3.out 0; have z1 := frozen_at' HR3.out 1; have z2 := frozen_at' HR3.out 2
  go_region_held3 (fun w' => w'.cell? ⟨w.heap.size, 0, none⟩ = some (.int .i64 s.l) ∧ w'.cell? ⟨w.heap.size, 1, none⟩ = some (.int .i64 s.a) ∧ w'.cell? ⟨w.heap.size + 1, 0, none⟩ = some (.int .i64 c.id) ∧ w'.cell? ⟨w.heap.size + 1, 1, none⟩ = some (.int .i64 c.parent) ∧ w'.cell? ⟨w.heap.size + 1, 2, none⟩ = some (.float .f64 c.share) ∧ w'.cell? ⟨w.heap.size + 1, 3, none⟩ = some (.int .i64 c.prio) ∧ w'.cell? ⟨w.heap.size + 1, 4, none⟩ = some (.int .i64 c.quantum) ∧ w'.cell? ⟨w.heap.size + 1, 5, none⟩ = some (.int .i64 c.limit) ∧ w'.cell? ⟨w.heap.size + 1, 6, none⟩ = some (.int .i64 c.weight) ∧ w'.cell? ⟨w.heap.size + 1, 7, none⟩ = some (.int .i64 c.minIdle) ∧ w'.cell? ⟨w.heap.size + 1, 8, none⟩ = some (.int .i64 c.maxIdle) ∧ w'.cell? ⟨w.heap.size + 1, 9, none⟩ = some (.bool c.bounded) ∧ w'.cell? ⟨w.heap.size + 1, 10, none⟩ = some (.bool c.isolated)) (first | (refine keepI HS3.out hlt ?_; (repeat' (first | assumption | exact Below.refl _ _ | refine Below.drew ?_ | refine Below.alloc ?_ ?_ _ | refine Below.setCell ?_ ?_ _ | omega | (simp; done) | (simp; omega)))) | (all_goals (refine (Below.cell (w := w1) (B := w1.heap.size) ?hb ?hp).trans (by assumption); (case hp => first | (simp; done) | (simp; omega)); (case hb => (repeat' (first | assumption | exact Below.refl _ _ | refine Below.drew ?_ | refine Below.alloc ?_ ?_ _ | refine Below.setCell ?_ ?_ _ | omega | (simp; done) | (simp; omega))))))) (first
    | (go_at_call 139; (with_reducible refine (hold_c _ _).mono ?_); rintro e w' ⟨rfl, rfl⟩)
    | (go_at_call 141; (with_reducible refine (step_c _ _ _ _).mono ?_); rintro e w' ⟨rfl, rfl⟩)
    | (go_at_call 140; (with_reducible refine (HH.out _ _).mono ?_); rintro e w' ⟨rfl, rfl⟩))
  all_goals
    rw [← HA.out]
    generalize hW : World.drew (World.alloc (World.alloc w1 _) _) = W4
    have hb4 : Below w1.heap.size w1 W4 := by rw [← hW]; (repeat' (first | assumption | exact Below.refl _ _ | refine Below.drew ?_ | refine Below.alloc ?_ ?_ _ | refine Below.setCell ?_ ?_ _ | omega | (simp; done) | (simp; omega)))
    have e6 := (Below.cell (p := ⟨w.heap.size + 1, 6, none⟩) hb4 hlt).trans f6
    have e2 := (hb4.block (w.heap.size + 2) (by omega)).trans HR3.out
    have hbw : Below w.heap.size w W4 := HB3.out.trans (hb4.mono (by omega))
    first
      | (have oo : W4.heap[w1.heap.size + 1]? = some (.cells #[.int .i64 (hold now), .int .i64 A, .int .i64 0] 46 (0, 0)) := by rw [← hW]; show (World.alloc (World.alloc w1 _) _).heap[_]? = _; have := heap_alloc_new (w1.alloc (.cells #[.int .i64 c.id, .int .i64 c.parent, .float .f64 c.share, .int .i64 c.prio, .int .i64 c.quantum, .int .i64 c.limit, .int .i64 c.weight, .int .i64 c.minIdle, .int .i64 c.maxIdle, .bool c.bounded, .bool c.isolated] 84)) (.cells #[.int .i64 (hold now), .int .i64 A, .int .i64 0] 46); simpa using this)
      | (have oo : W4.heap[w1.heap.size]? = some (.cells #[.int .i64 (hold now), .int .i64 A, .int .i64 0] 46 (0, 0)) := by rw [← hW]; exact (Below.heap_alloc _ _ _ (by simp)).trans (heap_alloc_new _ _))
    have HW4 := Lib.hid hbw; have HO := Lib.hid oo; have HE2 := Lib.hid e2
    clear hW hb4 hbw f' f f0 f1 f2 f3 f4 f5 f6 f7 f8 f9 f10 HS3 HR3 HB3 q0 q1 q2 z0 z1 z2
    have o0 := cells_at oo 0 (.int .i64 (hold now)) rfl; have o1 := cells_at oo 1 (.int .i64 A) rfl; have o2 := cells_at oo 2 (.int .i64 0) rfl
    have y2 := frozen_at' oo 2
    have q0 := cells_at e2 0 (.int .i64 0) rfl; have q1 := cells_at e2 1 (.int .i64 0) rfl; have q2 := cells_at e2 2 (.int .i64 0) rfl
    have z0 := frozen_at' e2 0; have z1 := frozen_at' e2 1; have z2 := frozen_at' e2 2
    clear oo e2
    by_cases hn : A < 0
    · have HXn := Lib.hid (show X = ⟨hold now, A, addS now (addS time (awayS A c.weight))⟩ by rw [HX.out, if_pos hn])
      clear HX
      go_wp2_with (first
        | (go_at_call 143; (with_reducible refine (away_c _ _ _).mono ?_); rintro e w' ⟨rfl, rfl⟩)
        | (go_at_call 142; (with_reducible refine (add_c _ _ _).mono ?_); rintro e w' ⟨rfl, rfl⟩))
      (try simp only [Exit.inBlock, Exit.then])
      refine bodyPost_ret (v := .agg #[.int .i64 (hold now), .int .i64 A, .int .i64 (addS now (addS time (awayS A c.weight)))]) (by simp [results, Tryz.results64, go_sem, q0, q1, q2, na, nb, nc, nd, nf, ng, ne1, ne2, ne3]) rfl ?_
      refine ⟨by rw [HXn.out], ?_⟩
      have HB4 := HW4.out
      (repeat' (first | assumption | exact Below.refl _ _ | refine Below.drew ?_ | refine Below.alloc ?_ ?_ _ | refine Below.setCell ?_ ?_ _ | omega | (simp; done) | (simp; omega)))
    · have HXn := Lib.hid (show X = ⟨hold now, A, 0⟩ by rw [HX.out, if_neg hn])
      clear HX
      go_wp2_with fail
      (try simp only [Exit.inBlock, Exit.then])
      refine bodyPost_ret (v := .agg #[.int .i64 (hold now), .int .i64 A, .int .i64 0]) (by simp [results, Tryz.results64, go_sem, q0, q1, q2, na, nb, nc, nd, nf, ng, ne1, ne2, ne3]) rfl ?_
      refine ⟨by rw [HXn.out], ?_⟩
      have HB4 := HW4.out
      (repeat' (first | assumption | exact Below.refl _ _ | refine Below.drew ?_ | refine Below.alloc ?_ ?_ _ | refine Below.setCell ?_ ?_ _ | omega | (simp; done) | (simp; omega)))
end Go.Proofs.YtpchhfhmopmagaaGreat.Id

/- idle.New; the states as elements of a map. -/
namespace Go.Proofs.YtpchhfhmopmagaaGreat.Id
open Go.RowKit Go.Maps Wd Li St Sr Go.Proofs.YtpchhfhmopmagaaGreat.Mp Go.Proofs.YtpchhfhmopmagaaGreat.Cl Go.Proofs.YtpchhfhmopmagaaGreat.So Go.Proofs.YtpchhfhmopmagaaGreat.Tr Go.Proofs.YtpchhfhmopmagaaGreat.Sw
attribute [local go_sem] run_store_float Lx.opX Rel.oneOk
attribute [local irreducible] Lx.wpX

def S3.enc (s : S3) : DataW Unit := .agg [ie s.l, ie s.a, ie s.u]
theorem s3_kind : Kind S3.agg S3.enc where
  agg a b h := by
    obtain ⟨a1, a2, a3⟩ := a; obtain ⟨b1, b2, b3⟩ := b
    simp only [S3.agg, Value.agg.injEq, Array.mk.injEq, List.cons.injEq, Value.int.injEq, true_and, and_true] at h
    obtain ⟨rfl, rfl, rfl⟩ := h; rfl
  enc a b h := by
    obtain ⟨a1, a2, a3⟩ := a; obtain ⟨b1, b2, b3⟩ := b
    simp [S3.enc, ie] at h
    obtain ⟨rfl, rfl, rfl⟩ := h; rfl
theorem zs3 (w : World) : (zeroValue 46).run Tryz.prog w = .ok S3.nil.agg w := by kernel_rfl
set_option maxRecDepth 20000 in
set_option maxHeartbeats 1000000 in
theorem new_c (c : Cls) (hs : c.share < 18446744073709551616) (hr : rightS c = 0) (now : Int) (w : World) :
    Calls Tryz.prog 91 #[c.agg, .int .i64 now] w fun e w' => e = .returned (newI c now).agg ∧ Below w.heap.size w w' := by
  have HR := Lib.hid (iright_c c hs)
  rw [hr] at HR
  unfold Cls.agg at HR
  unfold newI S3.agg Cls.agg
  have h0 : ((w.alloc (.cells #[.int .i64 c.id, .int .i64 c.parent, .float .f64 c.share, .int .i64 c.prio, .int .i64 c.quantum, .int .i64 c.limit, .int .i64 c.weight, .int .i64 c.minIdle, .int .i64 c.maxIdle, .bool c.bounded, .bool c.isolated] 84)).alloc (.cells #[.int .i64 0, .int .i64 0, .int .i64 0] 46)).heap[w.heap.size]? = some (.cells #[.int .i64 c.id, .int .i64 c.parent, .float .f64 c.share, .int .i64 c.prio, .int .i64 c.quantum, .int .i64 c.limit, .int .i64 c.weight, .int .i64 c.minIdle, .int .i64 c.maxIdle, .bool c.bounded, .bool c.isolated] 84 (0, 0)) := (Below.heap_alloc _ _ _ (by simp)).trans (heap_alloc_new _ _)
  have h1 : ((w.alloc (.cells #[.int .i64 c.id, .int .i64 c.parent, .float .f64 c.share, .int .i64 c.prio, .int .i64 c.quantum, .int .i64 c.limit, .int .i64 c.weight, .int .i64 c.minIdle, .int .i64 c.maxIdle, .bool c.bounded, .bool c.isolated] 84)).alloc (.cells #[.int .i64 0, .int .i64 0, .int .i64 0] 46)).heap[w.heap.size + 1]? = some (.cells #[.int .i64 0, .int .i64 0, .int .i64 0] 46 (0, 0)) := by
    have := heap_alloc_new (w.alloc (.cells #[.int .i64 c.id, .int .i64 c.parent, .float .f64 c.share, .int .i64 c.prio, .int .i64 c.quantum, .int .i64 c.limit, .int .i64 c.weight, .int .i64 c.minIdle, .int .i64 c.maxIdle, .bool c.bounded, .bool c.isolated] 84)) (.cells #[.int .i64 0, .int .i64 0, .int .i64 0] 46)
    simpa using this
  have hb0 : Below w.heap.size w ((w.alloc (.cells #[.int .i64 c.id, .int .i64 c.parent, .float .f64 c.share, .int .i64 c.prio, .int .i64 c.quantum, .int .i64 c.limit, .int .i64 c.weight, .int .i64 c.minIdle, .int .i64 c.maxIdle, .bool c.bounded, .bool c.isolated] 84)).alloc (.cells #[.int .i64 0, .int .i64 0, .int .i64 0] 46)) := ((Below.refl _ w).alloc (Nat.le_refl _) _).alloc (by simp) _
  have hz0 : ((w.alloc (.cells #[.int .i64 c.id, .int .i64 c.parent, .float .f64 c.share, .int .i64 c.prio, .int .i64 c.quantum, .int .i64 c.limit, .int .i64 c.weight, .int .i64 c.minIdle, .int .i64 c.maxIdle, .bool c.bounded, .bool c.isolated] 84)).alloc (.cells #[.int .i64 0, .int .i64 0, .int .i64 0] 46)).heap.size = w.heap.size + 2 := by simp
  have H0 := Lib.hid h0; have H1 := Lib.hid h1; have HB0 := Lib.hid hb0; have HZ0 := Lib.hid hz0
  clear h0 h1 hb0 hz0
  go_enter Tryz.func91, Tryz.ntmps91
  go_upto_region 1 with fail
  generalize World.alloc (World.alloc w _) _ = U at *
  have hz := HZ0.out
  have f0 := cells_at H0.out 0 (.int .i64 c.id) rfl; have f1 := cells_at H0.out 1 (.int .i64 c.parent) rfl; have f2 := cells_at H0.out 2 (.float .f64 c.share) rfl; have f3 := cells_at H0.out 3 (.int .i64 c.prio) rfl; have f4 := cells_at H0.out 4 (.int .i64 c.quantum) rfl; have f5 := cells_at H0.out 5 (.int .i64 c.limit) rfl; have f6 := cells_at H0.out 6 (.int .i64 c.weight) rfl; have f7 := cells_at H0.out 7 (.int .i64 c.minIdle) rfl; have f8 := cells_at H0.out 8 (.int .i64 c.maxIdle) rfl; have f9 := cells_at H0.out 9 (.bool c.bounded) rfl; have f10 := cells_at H0.out 10 (.bool c.isolated) rfl
  go_upto_region 3 with (go_at_call 137; (with_reducible refine (HR.out _).mono ?_); rintro e w1 ⟨rfl, hb⟩; have HB := Lib.hid hb; clear hb)
  have hw1 := HB.out.size
  have K0 := Lib.hid ((HB.out.block w.heap.size (by omega)).trans H0.out)
  have K1 := Lib.hid ((HB.out.block (w.heap.size + 1) (by omega)).trans H1.out)
  have HBW := Lib.hid (HB0.out.trans (HB.out.mono HB0.out.size))
  have hw2 : w.heap.size + 1 < w1.heap.size := by omega
  clear f0 f1 f2 f3 f4 f5 f6 f7 f8 f9 f10 H0 H1 HB0 HZ0 HB hz hw1 HR
  have m8 := cells_at K0.out 8 (.int .i64 c.maxIdle) rfl
  refine Lx.wp_region_X 5 (fun w' => ∃ z, w' = Lx.kept (fun q => q = w.heap.size) w1.drew z) (fun i => i == 1) (by kernel_rfl) (by kernel_rfl) (Lx.kept_of (Lx.Keeps.refl _ _)) ?_
  simp only [List.take_succ_cons, List.take_zero, List.drop_succ_cons, List.drop_zero]
  repeat (refine Lx.wpX_step (fun K hK => ?_); first | (refine Lx.opX_free (by rfl) (by rfl) (by rfl) ?_; go_big_quiet_op; refine hK _ _ ?_; clear hK K) | (refine Lx.opX_nil (by rfl) (by rfl) (by rfl) (by rfl) ?_; refine hK _ _ ?_; clear hK K; simp only [Act.put, List.setIfInBounds_toArray, List.set_cons_succ, List.set_cons_zero]))
  refine Lx.wpX_step (fun K hK => ?_)
  refine Lx.opX_law (by rfl) (by rfl) ?_
  go_wp2_with (go_at_call 139; (with_reducible refine (hold_c _ _).mono ?_); rintro e w' ⟨rfl, rfl⟩)
  refine Lx.nq_mk (Lx.kept_of (Lx.Keeps.refl _ _)) (hK _ _ ?_)
  clear hK K
  repeat (refine Lx.wpX_step (fun K hK => ?_); first | (refine Lx.opX_free (by rfl) (by rfl) (by rfl) ?_; go_big_quiet_op; refine hK _ _ ?_; clear hK K) | (refine Lx.opX_nil (by rfl) (by rfl) (by rfl) (by rfl) ?_; refine hK _ _ ?_; clear hK K; simp only [Act.put, List.setIfInBounds_toArray, List.set_cons_succ, List.set_cons_zero]))
  refine Lx.wpX_nil ?_
  go_wp2_with (first | (refine wpList_store_whole (by rfl) 46 _ _ (by rfl) 3 Tryz.sizeOf46 (w.heap.size + 1) _ _ 46 (by rfl) (by rfl) K1.out (by rfl) (by rfl) (by simp [Value.oneCell']) ?_; intro w6 hb6 hg6; have r0 := cells_at hb6 0 _ rfl; have r1 := cells_at hb6 1 _ rfl; have r2 := cells_at hb6 2 _ rfl; have HG6 := Lib.hid hg6; clear hb6 hg6))
  (try simp only [Exit.inBlock, Exit.then])
  refine bodyPost_ret (v := .agg #[.int .i64 (hold now), .int .i64 c.maxIdle, .int .i64 0]) (by simp [results, Tryz.results91, go_sem, r0, r1, r2]) rfl ?_
  exact ⟨rfl, HBW.out.drew.grown HG6.out HBW.out.size (fun q hq => by injection hq; omega)⟩
end Go.Proofs.YtpchhfhmopmagaaGreat.Id
