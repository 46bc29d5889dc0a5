/- Ldexp down by 20; share.Of. -/
import Derived.Test.YtdankjhjmaehiaaClM
import Derived.Test.YtdankjhjmaehiaaQpM
namespace Go.Proofs.Ytdankjhjmaehiaa.Qu
open Go.RowKit Go.Proofs.Ytdankjhjmaehiaa.Fl Go.Proofs.Ytdankjhjmaehiaa.Wd Go.Proofs.Ytdankjhjmaehiaa.St Go.Proofs.Ytdankjhjmaehiaa.Cl

set_option maxRecDepth 20000 in
set_option maxHeartbeats 1000000 in
theorem ldexp_down (x W : Nat) (hW : x = W + 20 * 4503599627370496) (h1 : one ≤ x) (h2 : x ≤ c20) (w : World) :
    Calls Try.prog 73 #[.float .f64 x, .int .i64 (-20)] w fun e w' => e = .returned (.float .f64 (W)) ∧ ∃ n, w' = w.drewN n := by
  have ho : one = 4607182418800017408 := rfl
  have hc : c20 = 4697254411347427328 := rfl
  rw [ho] at h1
  rw [hc] at h2
  have hn : nan x = false := (nan_false_iff x).2 (by omega)
  have hz : feq x 0 = false := by
    cases h : feq x 0 with
    | false => rfl
    | true => rcases (feq_zero (by omega)).1 h with h | h <;> omega
  have hi := isinf_zero x (by omega)
  rw [show (absB x == 9218868437227405312) = false from beq_eq_false_iff_ne.2 (by unfold absB; omega)] at hi
  have Hi := Lib.hid hi; clear hi
  obtain ⟨E, F, hx, hF, hE1, hE2⟩ : ∃ E F : Nat, x = E * 4503599627370496 + F ∧ F < 4503599627370496 ∧ 1023 ≤ E ∧ E ≤ 1043 := ⟨x / 4503599627370496, x % 4503599627370496, by omega, by omega, by omega, by omega⟩
  have ha : bits .and .i64 ((x : Int) / 4503599627370496) 2047 = (E : Int) := by
    have : (x : Int) / 4503599627370496 = (E : Int) := by omega
    rw [this]; exact and_2047 E (by omega)
  have hb : bits .andNot .u64 (x : Int) 9218868437227405312 = (F : Int) := by rw [hx]; exact andnot_exp E F (by omega) hF
  have hor : bits .or .u64 (F : Int) ((-20 + ((E : Int) - 1023) + 1023) * 4503599627370496) = (W : Int) := by
    have e : (-20 + ((E : Int) - 1023) + 1023) = ((E - 20 : Nat) : Int) := by omega
    have e2 : (E - 20) * 4503599627370496 + F = W := by omega
    rw [e, or_exp (E - 20) F (by omega) hF, e2]
  have hm := mul1 (w := W) (by omega)
  rw [ho] at hm
  have hm1 : ∀ w, fbits .mul 4607182418800017408 (W) w = W := fun w => by unfold fbits; rw [hm]; rfl
  have hm2 : fcount .mul 4607182418800017408 (W) = 0 := by unfold fcount; rw [hm]; rfl
  clear hm hx ho hc hW
  go_enter Try.func73, Try.ntmps73
  go_wp2_with fail
  refine (Hi.out _).mono ?_; rintro e w' ⟨rfl, rfl⟩
  go_wp2_with fail
  refine (isnan_is _ false hn _).mono ?_; rintro e w' ⟨rfl, rfl⟩
  go_wp2_with fail
  refine (norm_normal x (by omega) (by omega) _).mono ?_; rintro e w' ⟨rfl, rfl⟩
  go_wp2_with fail
  go_ret
  exact ⟨rfl, 0, rfl⟩

theorem ldexp_nil (w : World) : Calls Try.prog 73 #[.float .f64 0, .int .i64 (-20)] w fun e w' => e = .returned (.float .f64 0) ∧ ∃ n, w' = w.drewN n := by
  have hx : feq 0 0 = true := by decide +kernel
  go_enter Try.func73, Try.ntmps73
  go_wp2
  go_ret
  exact ⟨rfl, 0, rfl⟩
theorem ldexp_fx (u : Nat) (hu : u ≤ 1048576) (w : World) : Calls Try.prog 73 #[.float .f64 (floatOfInt .f64 (u : Int)), .int .i64 (-20)] w fun e w' => e = .returned (.float .f64 (fx u)) ∧ ∃ n, w' = w.drewN n := by
  obtain ⟨x, hx, hm, hl⟩ := ofInt_exact u (by omega)
  rw [hx]
  have hU := U_pos
  by_cases h0 : u = 0
  · subst h0
    have : x = 0 := mag_inj (by rw [hm, mag_zero]; simp)
    subst this
    rw [fx_zero]
    exact ldexp_nil w
  · have h1 : one ≤ x := by
      have h : ¬ mag x < mag one := by
        rw [hm, mag_one]
        have : 1 * U ≤ u * U := Nat.mul_le_mul_right _ (by omega)
        omega
      have := mag_lt_iff x one
      omega
    have h2 : x ≤ c20 := by
      have h : ¬ mag c20 < mag x := by
        rw [hm, mag_c20]
        have : u * U ≤ 2 ^ 20 * U := Nat.mul_le_mul_right _ (by omega)
        omega
      have := mag_lt_iff c20 x
      omega
    have ho : one = 4607182418800017408 := rfl
    obtain ⟨W, hW⟩ : ∃ W, x = W + 20 * 4503599627370496 := ⟨x - 20 * 4503599627370496, by omega⟩
    have hms := mag_shift (w := W) (k := 20) (by omega)
    rw [show 20 * 2 ^ 52 = 20 * 4503599627370496 by decide, ← hW, hm] at hms
    rw [fx_is (u := u) (by omega) hms.symm]
    exact ldexp_down x W hW h1 h2 w
theorem Ldexp_fx (u : Nat) (hu : u ≤ 1048576) (w : World) : Calls Try.prog 55 #[.float .f64 (floatOfInt .f64 (u : Int)), .int .i64 (-20)] w fun e w' => e = .returned (.float .f64 (fx u)) ∧ ∃ n, w' = w.drewN n := by
  have Hc := Lib.hid (fun w => ldexp_fx u hu w)
  generalize floatOfInt .f64 (u : Int) = x at *
  generalize fx u = z at *
  go_enter Try.func55, Try.ntmps55
  go_wp2_with fail
  refine (Hc.out _).mono ?_; rintro e w' ⟨rfl, n, rfl⟩
  go_wp2_with fail
  go_ret
  exact ⟨rfl, n, rfl⟩
end Go.Proofs.Ytdankjhjmaehiaa.Qu
