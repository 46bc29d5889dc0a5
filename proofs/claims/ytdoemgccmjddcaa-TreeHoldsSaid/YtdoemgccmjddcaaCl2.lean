/- Shares: Ldexp of a small one, and of any; Units, the program's and the document's. -/
import Derived.Test.YtdoemgccmjddcaaCl1
namespace Go.Proofs.Ytdoemgccmjddcaa.Cl
open Go.RowKit Fl Wd St

theorem feq0_false {x : Nat} (h : 0 < x) (h2 : x < 9223372036854775808) : feq x 0 = false := by
  cases hh : feq x 0 with
  | false => rfl
  | true => rcases (feq_zero (by omega)).1 hh with h | h <;> omega
set_option maxRecDepth 20000 in
set_option maxHeartbeats 1000000 in
theorem ldexp_sub (x z : Nat) (h0 : 0 < x) (h2 : x < 4503599627370496) (hz : mag z = mag x * 2 ^ 20) (w : World) :
    Calls Try.prog 162 #[.float .f64 x, .int .i64 20] w fun e w' => e = .returned (.float .f64 z) ∧ ∃ n, w' = w.drewN n := by
  have hn : nan x = false := (nan_false_iff x).2 (by omega)
  have hf0 := feq0_false h0 (by omega)
  have hi := isinf_zero x (by omega)
  rw [show (absB x == 9218868437227405312) = false from beq_eq_false_iff_ne.2 (by unfold absB; omega)] at hi
  have Hi := Lib.hid hi; clear hi
  obtain ⟨y, hy, hy2, hym⟩ := mul52 (x := x) (by omega)
  have hy3 : 4503599627370496 ≤ y := by
    have h3 := mag_lt_iff y 4503599627370496
    have h4 : mag 4503599627370496 = 4503599627370496 := mag_small (by omega)
    omega
  have hy4 : y < 53 * 4503599627370496 := by
    have h3 := mag_lt_iff y (53 * 4503599627370496)
    have h4 : mag (53 * 4503599627370496) = 2 ^ 104 := by
      have := mag_pow 52
      rwa [show (52 + 1) * 2 ^ 52 = 53 * 4503599627370496 by decide] at this
    omega
  have hns := norm_sub x y h2 hy
  have Hns := Lib.hid hns; clear hns
  rw [mag_small (by omega : x < 2 ^ 53)] at hz
  obtain ⟨E, F, hx, hF, hE1, hE2⟩ : ∃ E F : Nat, y = E * 4503599627370496 + F ∧ F < 4503599627370496 ∧ 1 ≤ E ∧ E ≤ 52 := ⟨y / 4503599627370496, y % 4503599627370496, by omega, by omega, by omega, by omega⟩
  have ha : bits .and .i64 ((y : Int) / 4503599627370496) 2047 = (E : Int) := by
    have : (y : Int) / 4503599627370496 = (E : Int) := by omega
    rw [this]; exact and_2047 E (by omega)
  have hb : bits .andNot .u64 (y : Int) 9218868437227405312 = (F : Int) := by rw [hx]; exact andnot_exp E F (by omega) hF
  have hp1 : (0 : Int) ≤ (y : Int) := by omega
  by_cases hE : E < 33
  · have hor : bits .or .u64 (F : Int) ((-32 + ((E : Int) - 1023) + 53 + 1023) * 4503599627370496) = ((y + 21 * 4503599627370496 : Nat) : Int) := by
      have e : (-32 + ((E : Int) - 1023) + 53 + 1023) = ((E + 21 : Nat) : Int) := by omega
      have e2 : (E + 21) * 4503599627370496 + F = E * 4503599627370496 + F + 21 * 4503599627370496 := by omega
      rw [e, or_exp (E + 21) F (by omega) hF, hx, e2]
    have hW : mag (y + 21 * 4503599627370496) = x * 2 ^ 73 := by
      have := mag_shift (w := y) (k := 21) (by omega)
      rw [show 21 * 2 ^ 52 = 21 * 4503599627370496 by decide] at this
      rw [this, hym, Nat.mul_assoc, ← Nat.pow_add]
    obtain ⟨z', hz1, hz2, hz3⟩ := mulm53 (x := x) (w := y + 21 * 4503599627370496) (by omega) (by omega) hW
    have hzz : z' = z := mag_inj (by rw [hz3, hz])
    subst hzz
    unfold cm53 at hz1
    have hm1 : ∀ w, fbits .mul 4368491638549381120 (y + 21 * 4503599627370496) w = z' := fun w => by unfold fbits; rw [hz1]; rfl
    have hm2 : fcount .mul 4368491638549381120 (y + 21 * 4503599627370496) = 0 := by unfold fcount; rw [hz1]; rfl
    generalize y + 21 * 4503599627370496 = W at *
    clear hx hz1 hz2 hz3 hW hym hz hy
    go_enter Try.func162, Try.ntmps162
    go_wp2_with fail
    refine (Hi.out _).mono ?_; rintro e w' ⟨rfl, rfl⟩
    go_wp2_with fail
    refine (isnan_is _ false hn _).mono ?_; rintro e w' ⟨rfl, rfl⟩
    go_wp2_with fail
    refine (Hns.out _).mono ?_; rintro e w' ⟨rfl, rfl⟩
    go_wp2_with fail
    go_ret
    exact ⟨rfl, _, rfl⟩
  · have hor : bits .or .u64 (F : Int) ((-32 + ((E : Int) - 1023) + 1023) * 4503599627370496) = ((y - 32 * 4503599627370496 : Nat) : Int) := by
      have e : (-32 + ((E : Int) - 1023) + 1023) = ((E - 32 : Nat) : Int) := by omega
      have e2 : (E - 32) * 4503599627370496 + F = E * 4503599627370496 + F - 32 * 4503599627370496 := by omega
      rw [e, or_exp (E - 32) F (by omega) hF, hx, e2]
    have hW : mag (y - 32 * 4503599627370496) = x * 2 ^ 20 := by
      have := mag_shift (w := y - 32 * 4503599627370496) (k := 32) (by omega)
      rw [show 32 * 2 ^ 52 = 32 * 4503599627370496 by decide, Nat.sub_add_cancel (by omega), hym] at this
      have e3 : x * 2 ^ 52 = x * 2 ^ 20 * 2 ^ 32 := by rw [Nat.mul_assoc]
      rw [e3] at this
      exact (Nat.eq_of_mul_eq_mul_right (by decide) this).symm
    have hz1 := mul1 (w := y - 32 * 4503599627370496) (by omega)
    have hzz : y - 32 * 4503599627370496 = z := mag_inj (by rw [hW, hz])
    rw [hzz] at hz1 hor
    unfold one at hz1
    have hm1 : ∀ w, fbits .mul 4607182418800017408 z w = z := fun w => by unfold fbits; rw [hz1]; rfl
    have hm2 : fcount .mul 4607182418800017408 z = 0 := by unfold fcount; rw [hz1]; rfl
    clear hx hz1 hW hym hz hy hzz
    go_enter Try.func162, Try.ntmps162
    go_wp2_with fail
    refine (Hi.out _).mono ?_; rintro e w' ⟨rfl, rfl⟩
    go_wp2_with fail
    refine (isnan_is _ false hn _).mono ?_; rintro e w' ⟨rfl, rfl⟩
    go_wp2_with fail
    refine (Hns.out _).mono ?_; rintro e w' ⟨rfl, rfl⟩
    go_wp2_with fail
    go_ret
    exact ⟨rfl, _, rfl⟩

theorem ldexp_zero (x : Nat) (hx : feq x 0 = true) (w : World) : Calls Try.prog 162 #[.float .f64 x, .int .i64 20] w fun e w' => e = .returned (.float .f64 x) ∧ ∃ n, w' = w.drewN n := by
  go_enter Try.func162, Try.ntmps162
  go_wp2_with fail
  go_ret
  exact ⟨rfl, 0, rfl⟩

/-- what Ldexp(x, 20) gives -/
def up20 (x z : Nat) : Prop := (x = 9223372036854775808 ∧ z = x) ∨ (x ≤ one ∧ z < 9218868437227405312 ∧ mag z = mag x * 2 ^ 20)
theorem ldexp_any (x z : Nat) (h : up20 x z) (w : World) : Calls Try.prog 162 #[.float .f64 x, .int .i64 20] w fun e w' => e = .returned (.float .f64 z) ∧ ∃ n, w' = w.drewN n := by
  rcases h with ⟨rfl, rfl⟩ | ⟨h1, h2, h3⟩
  · exact ldexp_zero _ (by decide +kernel) w
  · by_cases h0 : x = 0
    · subst h0
      have : z = 0 := mag_inj (by rw [h3, mag_zero])
      subst this
      exact ldexp_zero _ (by decide +kernel) w
    · by_cases hs : x < 4503599627370496
      · exact ldexp_sub x z (by omega) hs h3 w
      · have := mag_shift (w := x) (k := 20) (by omega)
        rw [show 20 * 2 ^ 52 = 20 * 4503599627370496 by decide] at this
        have hz : z = x + 20 * 4503599627370496 := mag_inj (by rw [this, h3])
        rw [hz]
        exact ldexp_normal x (by omega) h1 w
theorem Ldexp_any (x z : Nat) (h : up20 x z) (w : World) : Calls Try.prog 149 #[.float .f64 x, .int .i64 20] w fun e w' => e = .returned (.float .f64 z) ∧ ∃ n, w' = w.drewN n := by
  have hc := ldexp_any x z h
  have Hc := Lib.hid hc; clear hc
  go_enter Try.func149, Try.ntmps149
  go_wp2_with fail
  refine (Hc.out _).mono ?_; rintro e w' ⟨rfl, n, rfl⟩
  go_wp2_with fail
  go_ret
  exact ⟨rfl, n, rfl⟩

theorem to_integral (name : String) (way : Ieee.Toward) : ∃ f : Nat → Bool → Nat → Sem Value, ∀ y, Extern.MathFloor.toIntegral name way #[.float .f64 y] =
    (match FloatKind.f64.decode y with | .nan s t => f y s t | d => pure (.float .f64 (FloatKind.f64.encode (d.integral way)))) := ⟨_, fun _ => rfl⟩
theorem run_integral {P : Program} (name : String) (way : Ieee.Toward) (y : Nat) (s : Bool) (m : Nat) (p : Int) (h : FloatKind.f64.decode y = .number s m p) (w : World) :
    (Extern.MathFloor.toIntegral name way #[.float .f64 y]).run P w = .ok (.float .f64 (FloatKind.f64.encode ((Ieee.Datum.number s m p).integral way))) w := by
  obtain ⟨f, hf⟩ := to_integral name way
  rw [hf, h]; rfl
theorem run_round (y : Nat) (hy : y < 9218868437227405312) (N : Nat) (hN : rhe (mag y) = N) (w : World) :
    (callFunc 148 #[.float .f64 y]).run Try.prog w = .ok (.value (.float .f64 (floatOfInt .f64 (N : Int)))) w := by
  rw [run_callFunc_extern Try.func148 (by kernel_rfl) (by kernel_rfl) (by kernel_rfl) (e := Extern.MathFloor.toIntegral "math.RoundToEven" .even) (by kernel_rfl)]
  have h := round_even hy hN
  obtain ⟨m, k, e, hm⟩ := read_pos hy
  have e' : FloatKind.f64.decode y = .number false m (-1074 + k) := e
  rw [e'] at h
  rw [run_integral _ _ _ _ _ _ e', h]; rfl
theorem run_round_neg (w : World) : (callFunc 148 #[.float .f64 9223372036854775808]).run Try.prog w = .ok (.value (.float .f64 9223372036854775808)) w := by
  rw [run_callFunc_extern Try.func148 (by kernel_rfl) (by kernel_rfl) (by kernel_rfl) (e := Extern.MathFloor.toIntegral "math.RoundToEven" .even) (by kernel_rfl)]
  have e' : FloatKind.f64.decode 9223372036854775808 = .number true 0 (-1074) := by decide +kernel
  have e2 : FloatKind.f64.encode ((Ieee.Datum.number true 0 (-1074)).integral .even) = 9223372036854775808 := by decide +kernel
  rw [run_integral _ _ _ _ _ _ e', e2]; rfl

/-- Units: what both come to -/
def RetU (u : Nat × Int) (w : World) (e : Ending) (w' : World) : Prop := e = .returned (.tuple #[.int .i64 (u.1 : Int), .int .i64 u.2]) ∧ ∃ n, w' = w.drewN n

theorem rhe_zero : rhe 0 = 0 := by
  unfold rhe
  have := U_pos
  rw [Nat.zero_div, Nat.zero_mod, if_neg (by omega)]
set_option maxRecDepth 20000 in
set_option maxHeartbeats 1000000 in
theorem units_any (x : Nat) (hx : x < 18446744073709551616) (w : World) : Calls Try.prog 118 #[.float .f64 x] w fun e w' => RetU (unitsS x) w e w' := by
  cases hn : nan x with
  | true =>
    have hu : unitsS x = (0, 21) := by unfold unitsS; rw [if_pos hn]
    rw [hu]; clear hu
    go_enter Try.func118, Try.ntmps118
    go_wp2_with fail
    refine (kind_nan x hn _).mono ?_; rintro e w' ⟨rfl, rfl⟩
    go_wp2_with fail
    go_ret2
    exact ⟨rfl, 0, rfl⟩
  | false =>
    by_cases hk : flt x 0 = true ∨ x = 9218868437227405312
    · have hu : unitsS x = (0, 2) := by
        unfold unitsS
        rw [if_neg (by rw [hn]; decide)]
        rcases hk with h | h
        · rw [if_pos (by rw [h]; rfl)]
        · subst h; rw [if_pos (by decide +kernel)]
      rw [hu]
      have Hk := Lib.hid hk; clear hu hk
      go_enter Try.func118, Try.ntmps118
      go_wp2_with fail
      refine (kind_num x hx hn _).mono ?_; rintro e w' ⟨k, rfl, rfl, hk0, hkk⟩
      rcases hkk.2 Hk.out with rfl | rfl | rfl <;> clear hkk hk0
      all_goals
        go_wp2_with fail
        go_ret2
        exact ⟨rfl, 0, rfl⟩
    · have hkn : flt x 0 = false := by
        cases h : flt x 0 with
        | false => rfl
        | true => exact absurd (.inl h) hk
      cases hg : flt one x with
      | true =>
        have hu : unitsS x = (0, 2) := by unfold unitsS; rw [if_neg (by rw [hn]; decide), hkn, hg]; rfl
        rw [hu]; clear hu
        unfold one at hg
        have Hk := Lib.hid hk; clear hk
        go_enter Try.func118, Try.ntmps118
        go_wp2_with fail
        refine (kind_num x hx hn _).mono ?_; rintro e w' ⟨k, rfl, rfl, hk0, hkk⟩
        have hk1 : k ≠ 1 ∧ k ≠ 2 ∧ k ≠ 6 := ⟨fun h => Hk.out (hkk.1 (.inl h)), fun h => Hk.out (hkk.1 (.inr (.inl h))), fun h => Hk.out (hkk.1 (.inr (.inr h)))⟩
        obtain ⟨hk1, hk2, hk3⟩ := hk1
        clear hkk
        go_wp2_with fail
        go_ret2
        exact ⟨rfl, 0, rfl⟩
      | false =>
        have hu : unitsS x = (rhe (mag (x % 9223372036854775808) * 2 ^ 20), 0) := by unfold unitsS; rw [if_neg (by rw [hn]; decide), hkn, hg]; rfl
        rw [hu]; clear hu
        have hib := in_bounds hx hn hkn hg
        unfold one at hg
        have Hk := Lib.hid hk; clear hk
        rcases hib with hb | rfl
        · obtain ⟨z, hz, hz2, hzm⟩ := mul20 hb
          have hmod : x % 9223372036854775808 = x := by have : one = 4607182418800017408 := rfl; omega
          rw [hmod, ← hzm]
          have hle : rhe (mag z) ≤ 2 ^ 20 := by rw [hzm]; exact rhe_le (small_mag hb)
          have hrr := fun w => run_round z hz2 _ rfl w
          have hld := Ldexp_any x z (.inr ⟨hb, hz2, hzm⟩)
          generalize rhe (mag z) = N at *
          have hci := fun w => run_convert_float_int (P := Try.prog) w 45 3 .f64 .i64 (floatOfInt .f64 (N : Int)) (N : Int) (by kernel_rfl) Try.underlying3 (int_of (by omega))
          have Hld := Lib.hid hld
          clear hld hz hz2 hzm hmod hb
          go_enter Try.func118, Try.ntmps118
          go_wp2_with fail
          refine (kind_num x hx hn _).mono ?_; rintro e w' ⟨k, rfl, rfl, hk0, hkk⟩
          have hk1 : k ≠ 1 ∧ k ≠ 2 ∧ k ≠ 6 := ⟨fun h => Hk.out (hkk.1 (.inl h)), fun h => Hk.out (hkk.1 (.inr (.inl h))), fun h => Hk.out (hkk.1 (.inr (.inr h)))⟩
          obtain ⟨hk1, hk2, hk3⟩ := hk1
          clear hkk
          go_wp2_with fail
          refine (Hld.out _).mono ?_; rintro e w' ⟨rfl, n, rfl⟩
          go_wp2_with fail
          go_ret2
          exact ⟨rfl, n, rfl⟩
        · rw [show 9223372036854775808 % 9223372036854775808 = 0 from rfl, mag_zero, Nat.zero_mul, rhe_zero]
          have hrr := run_round_neg
          have hld := Ldexp_any 9223372036854775808 9223372036854775808 (.inl ⟨rfl, rfl⟩)
          have hci := fun w => run_convert_float_int (P := Try.prog) w 45 3 .f64 .i64 9223372036854775808 0 (by kernel_rfl) Try.underlying3 (by decide +kernel)
          have Hld := Lib.hid hld
          clear hld
          go_enter Try.func118, Try.ntmps118
          go_wp2_with fail
          refine (kind_num _ hx hn _).mono ?_; rintro e w' ⟨k, rfl, rfl, hk0, hkk⟩
          have hk1 : k ≠ 1 ∧ k ≠ 2 ∧ k ≠ 6 := ⟨fun h => Hk.out (hkk.1 (.inl h)), fun h => Hk.out (hkk.1 (.inr (.inl h))), fun h => Hk.out (hkk.1 (.inr (.inr h)))⟩
          obtain ⟨hk1, hk2, hk3⟩ := hk1
          clear hkk
          go_wp2_with fail
          refine (Hld.out _).mono ?_; rintro e w' ⟨rfl, n, rfl⟩
          go_wp2_with fail
          go_ret2
          exact ⟨rfl, n, rfl⟩

end Go.Proofs.Ytdoemgccmjddcaa.Cl
