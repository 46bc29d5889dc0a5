/- Shares: Kind, Units (the program's and the document's), Same. Shares: Ldexp of a small one, and of any; Units, the program's and the document's. Classes: Units by halving; Right, the program's and the document's. Classes: the document's Right; Units; Same; Borrows. Classes: Same, the program's and the document's. Classes: the document's Same; with a share's bits; the examples; the law ClassTells. Classes: with a share's bits; the document's examples. -/
import Derived.Test.YtpchhfhmopmagaaGreatUn2
import Derived.Test.YtpchhfhmopmagaaGreatRel
set_option linter.unusedVariables false
set_option linter.unusedSimpArgs false
/- Shares: Kind, Units (the program's and the document's), Same. -/
namespace Go.Proofs.YtpchhfhmopmagaaGreat.Cl
open Go.RowKit Fl Wd St

theorem between_any (n lo hi : Int) (w : World) : Calls Tryz.prog 231 #[.int .i64 n, .int .i64 lo, .int .i64 hi] w fun e w' => e = .returned (.bool (decide (lo ≤ n) && decide (n ≤ hi))) ∧ w = w' := by
  by_cases h : lo ≤ n
  · go_enter Tryz.func231, Tryz.ntmps231
    go_wp2
    go_ret
    exact ⟨by simp [h], rfl⟩
  · go_enter Tryz.func231, Tryz.ntmps231
    go_wp2
    go_ret
    exact ⟨by rw [decide_eq_false (by omega : ¬ lo ≤ n)]; rfl, rfl⟩

def negB (x : Nat) : Nat := if x < 9223372036854775808 then x + 9223372036854775808 else x - 9223372036854775808
theorem negFloat_all {x : Nat} (h : x < 18446744073709551616) : Op.negFloat .f64 x = negB x := by
  unfold negB
  split
  · rename_i hx
    unfold Op.negFloat
    have e : 2 ^ (FloatKind.f64.format.exponentBits + FloatKind.f64.format.fractionBits) = 2 ^ 63 := by decide +kernel
    rw [e]
    have hy : x < 2 ^ 63 := by omega
    have ho : 2 ^ 63 + x = 2 ^ 63 ||| x := by
      have := Nat.two_pow_add_eq_or_of_lt hy 1
      simpa using this
    rw [show x + 9223372036854775808 = 2 ^ 63 + x by omega, ho]
    apply Nat.eq_of_testBit_eq
    intro i
    rw [Nat.testBit_xor, Nat.testBit_or, Nat.testBit_two_pow]
    by_cases hi : 63 = i
    · subst hi
      have : x.testBit 63 = false := Nat.testBit_lt_two_pow hy
      simp [this]
    · simp [hi]
  · rw [negFloat_eq (by omega) h]; unfold absB; omega
def MX : Nat := 9218868437227405311
theorem nn_MX : nan MX = false := by decide +kernel
theorem flt_MX (x : Nat) : flt MX x = true ↔ x / 9223372036854775808 % 2 = 0 ∧ x % 9223372036854775808 = 9218868437227405312 := by
  cases hn : nan x with
  | true =>
    have := (nan_iff x).1 hn
    rw [flt_nanr hn]
    constructor
    · intro h; cases h
    · intro h; omega
  | false =>
    have := (nan_false_iff x).1 hn
    unfold flt
    rw [hn, nn_MX]
    unfold key
    have hm : MX = 9218868437227405311 := rfl
    rw [hm, if_neg (by omega)]
    simp only [Bool.not_false, Bool.true_and, decide_eq_true_eq]
    split <;> omega

theorem isinf_neg (x : Nat) (hx : x < 18446744073709551616) (w : World) : Calls Tryz.prog 277 #[.float .f64 x, .int .i64 (-1)] w fun e w' => e = .returned (.bool (x == 18442240474082181120)) ∧ w = w' := by
  have hf : (flt 9218868437227405311 (negB x)) = (x == 18442240474082181120) := by
    rw [Bool.eq_iff_iff, beq_iff_eq]
    have := flt_MX (negB x)
    unfold MX at this
    rw [this]; unfold negB; split <;> omega
  have hn := negFloat_all hx
  have Hf := Lib.hid hf; clear hf
  go_enter Tryz.func277, Tryz.ntmps277
  go_wp2
  go_ret
  exact ⟨by rw [← Hf.out]; rfl, rfl⟩
theorem isinf_pos (x : Nat) (hx : x < 18446744073709551616) (w : World) : Calls Tryz.prog 277 #[.float .f64 x, .int .i64 1] w fun e w' => e = .returned (.bool (x == 9218868437227405312)) ∧ w = w' := by
  have hf : (flt 9218868437227405311 x) = (x == 9218868437227405312) := by
    rw [Bool.eq_iff_iff, beq_iff_eq]
    have := flt_MX x
    unfold MX at this
    rw [this]; omega
  have Hf := Lib.hid hf; clear hf
  go_enter Tryz.func277, Tryz.ntmps277
  go_wp2
  go_ret
  exact ⟨by rw [← Hf.out]; rfl, rfl⟩
theorem isinf_zero (x : Nat) (hx : x < 18446744073709551616) (w : World) : Calls Tryz.prog 277 #[.float .f64 x, .int .i64 0] w fun e w' => e = .returned (.bool (absB x == 9218868437227405312)) ∧ w = w' := by
  have hf : (flt 9218868437227405311 (absB x)) = (absB x == 9218868437227405312) := by
    rw [Bool.eq_iff_iff, beq_iff_eq]
    have := flt_MX (absB x)
    unfold MX at this
    rw [this]; unfold absB; omega
  have Hf := Lib.hid hf; clear hf
  go_enter Tryz.func277, Tryz.ntmps277
  go_wp2_with (go_at_call 283; refine (abs_any x hx _).mono ?_; rintro e w' ⟨rfl, rfl⟩)
  go_ret
  exact ⟨by rw [← Hf.out]; rfl, rfl⟩

theorem signbit_any (x : Nat) (w : World) : Calls Tryz.prog 278 #[.float .f64 x] w fun e w' => ∃ b, e = .returned (.bool b) ∧ w = w' := by
  go_enter Tryz.func278, Tryz.ntmps278
  go_wp2
  go_ret
  exact ⟨_, rfl, rfl⟩

/-- what Kind tells: no number, out of bounds, or in bounds -/
theorem kind_nan (x : Nat) (hn : nan x = true) (w : World) : Calls Tryz.prog 267 #[.float .f64 x] w fun e w' => e = .returned (.int .i64 0) ∧ w = w' := by
  go_enter Tryz.func267, Tryz.ntmps267
  go_wp2_with (go_at_call 221; refine (isnan_is x true hn _).mono ?_; rintro e w' ⟨rfl, rfl⟩)
  go_ret
  exact ⟨rfl, rfl⟩
def KindNum (x : Nat) (w : World) (e : Ending) (w' : World) : Prop := ∃ k : Int, e = .returned (.int .i64 k) ∧ w = w' ∧ k ≠ 0 ∧ ((k = 1 ∨ k = 2 ∨ k = 6) ↔ (flt x 0 = true ∨ x = 9218868437227405312))
theorem kind_num (x : Nat) (hx : x < 18446744073709551616) (hn : nan x = false) (w : World) : Calls Tryz.prog 267 #[.float .f64 x] w fun e w' => KindNum x w e w' := by
  by_cases h1 : x = 18442240474082181120
  · subst h1
    have hb : ((18442240474082181120 : Nat) == 18442240474082181120) = true := rfl
    have hi := isinf_neg 18442240474082181120 hx
    rw [hb] at hi
    have Hi := Lib.hid hi; clear hi hb
    go_enter Tryz.func267, Tryz.ntmps267
    go_wp2_with fail
    refine (isnan_is _ false hn _).mono ?_; rintro e w' ⟨rfl, rfl⟩
    go_wp2_with fail
    refine (Hi.out _).mono ?_; rintro e w' ⟨rfl, rfl⟩
    go_wp2_with fail
    go_ret
    refine ⟨1, rfl, rfl, by decide, ?_⟩
    have : flt 18442240474082181120 0 = true := by decide +kernel
    simp [this]
  · have hi := isinf_neg x hx
    rw [show (x == 18442240474082181120) = false from beq_eq_false_iff_ne.2 h1] at hi
    have Hi := Lib.hid hi; clear hi
    by_cases h2 : x = 9218868437227405312
    · subst h2
      have hj := isinf_pos 9218868437227405312 hx
      rw [show ((9218868437227405312 : Nat) == 9218868437227405312) = true from rfl] at hj
      have Hj := Lib.hid hj; clear hj h1
      go_enter Tryz.func267, Tryz.ntmps267
      go_wp2_with fail
      refine (isnan_is _ false hn _).mono ?_; rintro e w' ⟨rfl, rfl⟩
      go_wp2_with fail
      refine (Hi.out _).mono ?_; rintro e w' ⟨rfl, rfl⟩
      go_wp2_with fail
      refine (Hj.out _).mono ?_; rintro e w' ⟨rfl, rfl⟩
      go_wp2_with fail
      go_ret
      exact ⟨6, rfl, rfl, by decide, by simp⟩
    · have hj := isinf_pos x hx
      rw [show (x == 9218868437227405312) = false from beq_eq_false_iff_ne.2 h2] at hj
      have Hj := Lib.hid hj; have H2 := Lib.hid h2; clear hj h1 h2
      cases hl : flt x 0 with
      | true =>
        go_enter Tryz.func267, Tryz.ntmps267
        go_wp2_with fail
        refine (isnan_is _ false hn _).mono ?_; rintro e w' ⟨rfl, rfl⟩
        go_wp2_with fail
        refine (Hi.out _).mono ?_; rintro e w' ⟨rfl, rfl⟩
        go_wp2_with fail
        refine (Hj.out _).mono ?_; rintro e w' ⟨rfl, rfl⟩
        go_wp2_with fail
        go_ret
        exact ⟨2, rfl, rfl, by decide, by simp [hl]⟩
      | false =>
        cases hg : flt 0 x with
        | true =>
          go_enter Tryz.func267, Tryz.ntmps267
          go_wp2_with fail
          refine (isnan_is _ false hn _).mono ?_; rintro e w' ⟨rfl, rfl⟩
          go_wp2_with fail
          refine (Hi.out _).mono ?_; rintro e w' ⟨rfl, rfl⟩
          go_wp2_with fail
          refine (Hj.out _).mono ?_; rintro e w' ⟨rfl, rfl⟩
          go_wp2_with fail
          go_ret
          exact ⟨5, rfl, rfl, by decide, by have h2 : ¬ x = 9218868437227405312 := H2.out; simp [h2, hl]⟩
        | false =>
          go_enter Tryz.func267, Tryz.ntmps267
          go_wp2_with fail
          refine (isnan_is _ false hn _).mono ?_; rintro e w' ⟨rfl, rfl⟩
          go_wp2_with fail
          refine (Hi.out _).mono ?_; rintro e w' ⟨rfl, rfl⟩
          go_wp2_with fail
          refine (Hj.out _).mono ?_; rintro e w' ⟨rfl, rfl⟩
          go_wp2_with fail
          refine (signbit_any _ _).mono ?_; rintro e w' ⟨b, rfl, rfl⟩
          have h2 : ¬ x = 9218868437227405312 := H2.out
          have hk4 : KindNum x w (.returned (.int .i64 4)) w := ⟨4, rfl, rfl, by decide, by simp [h2, hl]⟩
          have hk3 : KindNum x w (.returned (.int .i64 3)) w := ⟨3, rfl, rfl, by decide, by simp [h2, hl]⟩
          clear h2
          have K4 := Lib.hid hk4; have K3 := Lib.hid hk3; clear hk4 hk3
          cases b with
          | true => go_wp2_with fail; go_ret; exact K3.out
          | false => go_wp2_with fail; go_ret; exact K4.out

theorem norm_normal (x : Nat) (h1 : 4503599627370496 ≤ x) (h2 : x < 9218868437227405312) (w : World) :
    Calls Tryz.prog 284 #[.float .f64 x] w fun e w' => e = .returned (.tuple #[.float .f64 x, .int .i64 0]) ∧ w = w' := by
  have ha : absB x = x := by unfold absB; omega
  have hl : flt x 4503599627370496 = false := by rw [flt_pos (by omega) (by omega)]; exact decide_eq_false (by omega)
  have hc := abs_any x (by omega)
  rw [ha] at hc
  have Hc := Lib.hid hc; clear hc ha
  go_enter Tryz.func284, Tryz.ntmps284
  go_wp2_with fail
  refine (Hc.out _).mono ?_; rintro e w' ⟨rfl, rfl⟩
  go_wp2_with fail
  go_ret2
  exact ⟨rfl, rfl⟩
theorem norm_sub (x y : Nat) (h1 : x < 4503599627370496) (hy : floatBits .mul .f64 x c52 = some y) (w : World) :
    Calls Tryz.prog 284 #[.float .f64 x] w fun e w' => e = .returned (.tuple #[.float .f64 y, .int .i64 (-52)]) ∧ w.drewN 0 = w' := by
  have ha : absB x = x := by unfold absB; omega
  have hl : flt x 4503599627370496 = true := by rw [flt_pos (by omega) (by omega)]; exact decide_eq_true (by omega)
  have hc := abs_any x (by omega)
  rw [ha] at hc
  unfold c52 at hy
  have hb : ∀ w, fbits .mul x 4841369599423283200 w = y := fun w => by unfold fbits; rw [hy]; rfl
  have hk : fcount .mul x 4841369599423283200 = 0 := by unfold fcount; rw [hy]; rfl
  have Hc := Lib.hid hc; clear hc ha hy
  go_enter Tryz.func284, Tryz.ntmps284
  go_wp2_with fail
  refine (Hc.out _).mono ?_; rintro e w' ⟨rfl, rfl⟩
  go_wp2_with fail
  go_ret2
  exact ⟨rfl, rfl⟩

theorem and_2047 (E : Nat) (h : E < 2048) : bits .and .i64 (E : Int) 2047 = (E : Int) := by
  show IntKind.i64.wrap ((BitVec.ofInt 64 (E : Int) &&& BitVec.ofInt 64 (2047 : Int)).toNat : Int) = _
  have e1 : (BitVec.ofInt 64 (E : Int)).toNat = E := by
    rw [BitVec.ofInt_natCast, BitVec.toNat_ofNat]; exact Nat.mod_eq_of_lt (by omega)
  have e2 : (BitVec.ofInt 64 (2047 : Int)).toNat = 2 ^ 11 - 1 := by decide
  rw [BitVec.toNat_and, e1, e2, Nat.and_two_pow_sub_one_eq_mod, Nat.mod_eq_of_lt (by omega), IntKind.wrap_i64]
  omega
theorem andnot_exp (E F : Nat) (hE : E < 2048) (hF : F < 4503599627370496) : bits .andNot .u64 ((E * 4503599627370496 + F : Nat) : Int) 9218868437227405312 = (F : Int) := by
  have h := u64_andNot_nat (E * 4503599627370496 + F) 9218868437227405312 (by omega) (by omega)
  rw [show ((9218868437227405312 : Nat) : Int) = 9218868437227405312 from rfl] at h
  rw [h]
  have e2 : 18446744073709551615 - 9218868437227405312 = 2 ^ 63 ||| (2 ^ 52 - 1) := by decide
  rw [e2, Nat.and_or_distrib_left, Nat.and_two_pow_sub_one_eq_mod]
  have h63 : (E * 4503599627370496 + F) &&& 2 ^ 63 = 0 := by
    have hb : (E * 4503599627370496 + F).testBit 63 = false := Nat.testBit_lt_two_pow (by omega)
    apply Nat.eq_of_testBit_eq
    intro i
    rw [Nat.testBit_and, Nat.testBit_two_pow, Nat.zero_testBit]
    by_cases hi : 63 = i
    · subst hi; rw [hb]; rfl
    · simp [hi]
  rw [h63, Nat.zero_or]
  have e3 : (E * 4503599627370496 + F) % 2 ^ 52 = F := by omega
  rw [e3]
theorem or_exp (E F : Nat) (hE : E < 2048) (hF : F < 4503599627370496) : bits .or .u64 (F : Int) ((E : Int) * 4503599627370496) = ((E * 4503599627370496 + F : Nat) : Int) := by
  have e : (E : Int) * 4503599627370496 = ((E * 4503599627370496 : Nat) : Int) := by omega
  rw [e, u64_or_nat F (E * 4503599627370496) (by omega) (by omega)]
  have h := Nat.two_pow_add_eq_or_of_lt (i := 52) (b := F) (by omega) E
  rw [Nat.or_comm, show E * 4503599627370496 = 2 ^ 52 * E by omega, ← h]

set_option maxRecDepth 20000 in
set_option maxHeartbeats 1000000 in
theorem ldexp_normal (x : Nat) (h1 : 4503599627370496 ≤ x) (h2 : x ≤ one) (w : World) :
    Calls Tryz.prog 280 #[.float .f64 x, .int .i64 20] w fun e w' => e = .returned (.float .f64 (x + 20 * 4503599627370496)) ∧ ∃ n, w' = w.drewN n := by
  have ho : one = 4607182418800017408 := rfl
  rw [ho] at h2
  have hn : nan x = false := (nan_false_iff x).2 (by omega)
  have hz : feq x 0 = false := by
    cases h : feq x 0 with
    | false => rfl
    | true => rcases (feq_zero (by omega)).1 h with h | h <;> omega
  have hi := isinf_zero x (by omega)
  rw [show (absB x == 9218868437227405312) = false from beq_eq_false_iff_ne.2 (by unfold absB; omega)] at hi
  have Hi := Lib.hid hi; clear hi
  obtain ⟨E, F, hx, hF, hE1, hE2⟩ : ∃ E F : Nat, x = E * 4503599627370496 + F ∧ F < 4503599627370496 ∧ 1 ≤ E ∧ E ≤ 1023 := ⟨x / 4503599627370496, x % 4503599627370496, by omega, by omega, by omega, by omega⟩
  have ha : bits .and .i64 ((x : Int) / 4503599627370496) 2047 = (E : Int) := by
    have : (x : Int) / 4503599627370496 = (E : Int) := by omega
    rw [this]; exact and_2047 E (by omega)
  have hb : bits .andNot .u64 (x : Int) 9218868437227405312 = (F : Int) := by rw [hx]; exact andnot_exp E F (by omega) hF
  have hor : bits .or .u64 (F : Int) ((20 + ((E : Int) - 1023) + 1023) * 4503599627370496) = ((x + 20 * 4503599627370496 : Nat) : Int) := by
    have e : (20 + ((E : Int) - 1023) + 1023) = ((E + 20 : Nat) : Int) := by omega
    have e2 : (E + 20) * 4503599627370496 + F = E * 4503599627370496 + F + 20 * 4503599627370496 := by omega
    rw [e, or_exp (E + 20) F (by omega) hF, hx, e2]
  have hm := mul1 (w := x + 20 * 4503599627370496) (by omega)
  rw [ho] at hm
  have hm1 : ∀ w, fbits .mul 4607182418800017408 (x + 20 * 4503599627370496) w = x + 20 * 4503599627370496 := fun w => by unfold fbits; rw [hm]; rfl
  have hm2 : fcount .mul 4607182418800017408 (x + 20 * 4503599627370496) = 0 := by unfold fcount; rw [hm]; rfl
  generalize x + 20 * 4503599627370496 = W at *
  clear hm hx ho
  go_enter Tryz.func280, Tryz.ntmps280
  go_wp2_with fail
  refine (Hi.out _).mono ?_; rintro e w' ⟨rfl, rfl⟩
  go_wp2_with fail
  refine (isnan_is _ false hn _).mono ?_; rintro e w' ⟨rfl, rfl⟩
  go_wp2_with fail
  refine (norm_normal x h1 (by omega) _).mono ?_; rintro e w' ⟨rfl, rfl⟩
  go_wp2_with fail
  go_ret
  exact ⟨rfl, 0, rfl⟩

end Go.Proofs.YtpchhfhmopmagaaGreat.Cl

/- Shares: Ldexp of a small one, and of any; Units, the program's and the document's. -/
namespace Go.Proofs.YtpchhfhmopmagaaGreat.Cl
open Go.RowKit Fl Wd St

theorem feq0_false {x : Nat} (h : 0 < x) (h2 : x < 9223372036854775808) : feq x 0 = false := by
  cases hh : feq x 0 with
  | false => rfl
  | true => rcases (feq_zero (by omega)).1 hh with h | h <;> omega
set_option maxRecDepth 20000 in
set_option maxHeartbeats 1000000 in
theorem ldexp_sub (x z : Nat) (h0 : 0 < x) (h2 : x < 4503599627370496) (hz : mag z = mag x * 2 ^ 20) (w : World) :
    Calls Tryz.prog 280 #[.float .f64 x, .int .i64 20] w fun e w' => e = .returned (.float .f64 z) ∧ ∃ n, w' = w.drewN n := by
  have hn : nan x = false := (nan_false_iff x).2 (by omega)
  have hf0 := feq0_false h0 (by omega)
  have hi := isinf_zero x (by omega)
  rw [show (absB x == 9218868437227405312) = false from beq_eq_false_iff_ne.2 (by unfold absB; omega)] at hi
  have Hi := Lib.hid hi; clear hi
  obtain ⟨y, hy, hy2, hym⟩ := mul52 (x := x) (by omega)
  have hy3 : 4503599627370496 ≤ y := by
    have h3 := mag_lt_iff y 4503599627370496
    have h4 : mag 4503599627370496 = 4503599627370496 := mag_small (by omega)
    omega
  have hy4 : y < 53 * 4503599627370496 := by
    have h3 := mag_lt_iff y (53 * 4503599627370496)
    have h4 : mag (53 * 4503599627370496) = 2 ^ 104 := by
      have := mag_pow 52
      rwa [show (52 + 1) * 2 ^ 52 = 53 * 4503599627370496 by decide] at this
    omega
  have hns := norm_sub x y h2 hy
  have Hns := Lib.hid hns; clear hns
  rw [mag_small (by omega : x < 2 ^ 53)] at hz
  obtain ⟨E, F, hx, hF, hE1, hE2⟩ : ∃ E F : Nat, y = E * 4503599627370496 + F ∧ F < 4503599627370496 ∧ 1 ≤ E ∧ E ≤ 52 := ⟨y / 4503599627370496, y % 4503599627370496, by omega, by omega, by omega, by omega⟩
  have ha : bits .and .i64 ((y : Int) / 4503599627370496) 2047 = (E : Int) := by
    have : (y : Int) / 4503599627370496 = (E : Int) := by omega
    rw [this]; exact and_2047 E (by omega)
  have hb : bits .andNot .u64 (y : Int) 9218868437227405312 = (F : Int) := by rw [hx]; exact andnot_exp E F (by omega) hF
  have hp1 : (0 : Int) ≤ (y : Int) := by omega
  by_cases hE : E < 33
  · have hor : bits .or .u64 (F : Int) ((-32 + ((E : Int) - 1023) + 53 + 1023) * 4503599627370496) = ((y + 21 * 4503599627370496 : Nat) : Int) := by
      have e : (-32 + ((E : Int) - 1023) + 53 + 1023) = ((E + 21 : Nat) : Int) := by omega
      have e2 : (E + 21) * 4503599627370496 + F = E * 4503599627370496 + F + 21 * 4503599627370496 := by omega
      rw [e, or_exp (E + 21) F (by omega) hF, hx, e2]
    have hW : mag (y + 21 * 4503599627370496) = x * 2 ^ 73 := by
      have := mag_shift (w := y) (k := 21) (by omega)
      rw [show 21 * 2 ^ 52 = 21 * 4503599627370496 by decide] at this
      rw [this, hym, Nat.mul_assoc, ← Nat.pow_add]
    obtain ⟨z', hz1, hz2, hz3⟩ := mulm53 (x := x) (w := y + 21 * 4503599627370496) (by omega) (by omega) hW
    have hzz : z' = z := mag_inj (by rw [hz3, hz])
    subst hzz
    unfold cm53 at hz1
    have hm1 : ∀ w, fbits .mul 4368491638549381120 (y + 21 * 4503599627370496) w = z' := fun w => by unfold fbits; rw [hz1]; rfl
    have hm2 : fcount .mul 4368491638549381120 (y + 21 * 4503599627370496) = 0 := by unfold fcount; rw [hz1]; rfl
    generalize y + 21 * 4503599627370496 = W at *
    clear hx hz1 hz2 hz3 hW hym hz hy
    go_enter Tryz.func280, Tryz.ntmps280
    go_wp2_with fail
    refine (Hi.out _).mono ?_; rintro e w' ⟨rfl, rfl⟩
    go_wp2_with fail
    refine (isnan_is _ false hn _).mono ?_; rintro e w' ⟨rfl, rfl⟩
    go_wp2_with fail
    refine (Hns.out _).mono ?_; rintro e w' ⟨rfl, rfl⟩
    go_wp2_with fail
    go_ret
    exact ⟨rfl, _, rfl⟩
  · have hor : bits .or .u64 (F : Int) ((-32 + ((E : Int) - 1023) + 1023) * 4503599627370496) = ((y - 32 * 4503599627370496 : Nat) : Int) := by
      have e : (-32 + ((E : Int) - 1023) + 1023) = ((E - 32 : Nat) : Int) := by omega
      have e2 : (E - 32) * 4503599627370496 + F = E * 4503599627370496 + F - 32 * 4503599627370496 := by omega
      rw [e, or_exp (E - 32) F (by omega) hF, hx, e2]
    have hW : mag (y - 32 * 4503599627370496) = x * 2 ^ 20 := by
      have := mag_shift (w := y - 32 * 4503599627370496) (k := 32) (by omega)
      rw [show 32 * 2 ^ 52 = 32 * 4503599627370496 by decide, Nat.sub_add_cancel (by omega), hym] at this
      have e3 : x * 2 ^ 52 = x * 2 ^ 20 * 2 ^ 32 := by rw [Nat.mul_assoc]
      rw [e3] at this
      exact (Nat.eq_of_mul_eq_mul_right (by decide) this).symm
    have hz1 := mul1 (w := y - 32 * 4503599627370496) (by omega)
    have hzz : y - 32 * 4503599627370496 = z := mag_inj (by rw [hW, hz])
    rw [hzz] at hz1 hor
    unfold one at hz1
    have hm1 : ∀ w, fbits .mul 4607182418800017408 z w = z := fun w => by unfold fbits; rw [hz1]; rfl
    have hm2 : fcount .mul 4607182418800017408 z = 0 := by unfold fcount; rw [hz1]; rfl
    clear hx hz1 hW hym hz hy hzz
    go_enter Tryz.func280, Tryz.ntmps280
    go_wp2_with fail
    refine (Hi.out _).mono ?_; rintro e w' ⟨rfl, rfl⟩
    go_wp2_with fail
    refine (isnan_is _ false hn _).mono ?_; rintro e w' ⟨rfl, rfl⟩
    go_wp2_with fail
    refine (Hns.out _).mono ?_; rintro e w' ⟨rfl, rfl⟩
    go_wp2_with fail
    go_ret
    exact ⟨rfl, _, rfl⟩

theorem ldexp_zero (x : Nat) (hx : feq x 0 = true) (w : World) : Calls Tryz.prog 280 #[.float .f64 x, .int .i64 20] w fun e w' => e = .returned (.float .f64 x) ∧ ∃ n, w' = w.drewN n := by
  go_enter Tryz.func280, Tryz.ntmps280
  go_wp2_with fail
  go_ret
  exact ⟨rfl, 0, rfl⟩

/-- what Ldexp(x, 20) gives -/
def up20 (x z : Nat) : Prop := (x = 9223372036854775808 ∧ z = x) ∨ (x ≤ one ∧ z < 9218868437227405312 ∧ mag z = mag x * 2 ^ 20)
theorem ldexp_any (x z : Nat) (h : up20 x z) (w : World) : Calls Tryz.prog 280 #[.float .f64 x, .int .i64 20] w fun e w' => e = .returned (.float .f64 z) ∧ ∃ n, w' = w.drewN n := by
  rcases h with ⟨rfl, rfl⟩ | ⟨h1, h2, h3⟩
  · exact ldexp_zero _ (by decide +kernel) w
  · by_cases h0 : x = 0
    · subst h0
      have : z = 0 := mag_inj (by rw [h3, mag_zero])
      subst this
      exact ldexp_zero _ (by decide +kernel) w
    · by_cases hs : x < 4503599627370496
      · exact ldexp_sub x z (by omega) hs h3 w
      · have := mag_shift (w := x) (k := 20) (by omega)
        rw [show 20 * 2 ^ 52 = 20 * 4503599627370496 by decide] at this
        have hz : z = x + 20 * 4503599627370496 := mag_inj (by rw [this, h3])
        rw [hz]
        exact ldexp_normal x (by omega) h1 w
theorem Ldexp_any (x z : Nat) (h : up20 x z) (w : World) : Calls Tryz.prog 269 #[.float .f64 x, .int .i64 20] w fun e w' => e = .returned (.float .f64 z) ∧ ∃ n, w' = w.drewN n := by
  have hc := ldexp_any x z h
  have Hc := Lib.hid hc; clear hc
  go_enter Tryz.func269, Tryz.ntmps269
  go_wp2_with fail
  refine (Hc.out _).mono ?_; rintro e w' ⟨rfl, n, rfl⟩
  go_wp2_with fail
  go_ret
  exact ⟨rfl, n, rfl⟩

theorem to_integral (name : String) (way : Ieee.Toward) : ∃ f : Nat → Bool → Nat → Sem Value, ∀ y, Extern.MathFloor.toIntegral name way #[.float .f64 y] =
    (match FloatKind.f64.decode y with | .nan s t => f y s t | d => pure (.float .f64 (FloatKind.f64.encode (d.integral way)))) := ⟨_, fun _ => rfl⟩
theorem run_integral {P : Program} (name : String) (way : Ieee.Toward) (y : Nat) (s : Bool) (m : Nat) (p : Int) (h : FloatKind.f64.decode y = .number s m p) (w : World) :
    (Extern.MathFloor.toIntegral name way #[.float .f64 y]).run P w = .ok (.float .f64 (FloatKind.f64.encode ((Ieee.Datum.number s m p).integral way))) w := by
  obtain ⟨f, hf⟩ := to_integral name way
  rw [hf, h]; rfl
theorem run_round (y : Nat) (hy : y < 9218868437227405312) (N : Nat) (hN : rhe (mag y) = N) (w : World) :
    (callFunc 268 #[.float .f64 y]).run Tryz.prog w = .ok (.value (.float .f64 (floatOfInt .f64 (N : Int)))) w := by
  rw [run_callFunc_extern Tryz.func268 (by kernel_rfl) (by kernel_rfl) (by kernel_rfl) (e := Extern.MathFloor.toIntegral "math.RoundToEven" .even) (by kernel_rfl)]
  have h := round_even hy hN
  obtain ⟨m, k, e, hm⟩ := read_pos hy
  have e' : FloatKind.f64.decode y = .number false m (-1074 + k) := e
  rw [e'] at h
  rw [run_integral _ _ _ _ _ _ e', h]; rfl
theorem run_round_neg (w : World) : (callFunc 268 #[.float .f64 9223372036854775808]).run Tryz.prog w = .ok (.value (.float .f64 9223372036854775808)) w := by
  rw [run_callFunc_extern Tryz.func268 (by kernel_rfl) (by kernel_rfl) (by kernel_rfl) (e := Extern.MathFloor.toIntegral "math.RoundToEven" .even) (by kernel_rfl)]
  have e' : FloatKind.f64.decode 9223372036854775808 = .number true 0 (-1074) := by decide +kernel
  have e2 : FloatKind.f64.encode ((Ieee.Datum.number true 0 (-1074)).integral .even) = 9223372036854775808 := by decide +kernel
  rw [run_integral _ _ _ _ _ _ e', e2]; rfl

/-- Units: what both come to -/
def RetU (u : Nat × Int) (w : World) (e : Ending) (w' : World) : Prop := e = .returned (.tuple #[.int .i64 (u.1 : Int), .int .i64 u.2]) ∧ ∃ n, w' = w.drewN n

theorem rhe_zero : rhe 0 = 0 := by
  unfold rhe
  have := U_pos
  rw [Nat.zero_div, Nat.zero_mod, if_neg (by omega)]
set_option maxRecDepth 20000 in
set_option maxHeartbeats 1000000 in
theorem units_any (x : Nat) (hx : x < 18446744073709551616) (w : World) : Calls Tryz.prog 244 #[.float .f64 x] w fun e w' => RetU (unitsS x) w e w' := by
  cases hn : nan x with
  | true =>
    have hu : unitsS x = (0, 21) := by unfold unitsS; rw [if_pos hn]
    rw [hu]; clear hu
    go_enter Tryz.func244, Tryz.ntmps244
    go_wp2_with fail
    refine (kind_nan x hn _).mono ?_; rintro e w' ⟨rfl, rfl⟩
    go_wp2_with fail
    go_ret2
    exact ⟨rfl, 0, rfl⟩
  | false =>
    by_cases hk : flt x 0 = true ∨ x = 9218868437227405312
    · have hu : unitsS x = (0, 2) := by
        unfold unitsS
        rw [if_neg (by rw [hn]; decide)]
        rcases hk with h | h
        · rw [if_pos (by rw [h]; rfl)]
        · subst h; rw [if_pos (by decide +kernel)]
      rw [hu]
      have Hk := Lib.hid hk; clear hu hk
      go_enter Tryz.func244, Tryz.ntmps244
      go_wp2_with fail
      refine (kind_num x hx hn _).mono ?_; rintro e w' ⟨k, rfl, rfl, hk0, hkk⟩
      rcases hkk.2 Hk.out with rfl | rfl | rfl <;> clear hkk hk0
      all_goals
        go_wp2_with fail
        go_ret2
        exact ⟨rfl, 0, rfl⟩
    · have hkn : flt x 0 = false := by
        cases h : flt x 0 with
        | false => rfl
        | true => exact absurd (.inl h) hk
      cases hg : flt one x with
      | true =>
        have hu : unitsS x = (0, 2) := by unfold unitsS; rw [if_neg (by rw [hn]; decide), hkn, hg]; rfl
        rw [hu]; clear hu
        unfold one at hg
        have Hk := Lib.hid hk; clear hk
        go_enter Tryz.func244, Tryz.ntmps244
        go_wp2_with fail
        refine (kind_num x hx hn _).mono ?_; rintro e w' ⟨k, rfl, rfl, hk0, hkk⟩
        have hk1 : k ≠ 1 ∧ k ≠ 2 ∧ k ≠ 6 := ⟨fun h => Hk.out (hkk.1 (.inl h)), fun h => Hk.out (hkk.1 (.inr (.inl h))), fun h => Hk.out (hkk.1 (.inr (.inr h)))⟩
        obtain ⟨hk1, hk2, hk3⟩ := hk1
        clear hkk
        go_wp2_with fail
        go_ret2
        exact ⟨rfl, 0, rfl⟩
      | false =>
        have hu : unitsS x = (rhe (mag (x % 9223372036854775808) * 2 ^ 20), 0) := by unfold unitsS; rw [if_neg (by rw [hn]; decide), hkn, hg]; rfl
        rw [hu]; clear hu
        have hib := in_bounds hx hn hkn hg
        unfold one at hg
        have Hk := Lib.hid hk; clear hk
        rcases hib with hb | rfl
        · obtain ⟨z, hz, hz2, hzm⟩ := mul20 hb
          have hmod : x % 9223372036854775808 = x := by have : one = 4607182418800017408 := rfl; omega
          rw [hmod, ← hzm]
          have hle : rhe (mag z) ≤ 2 ^ 20 := by rw [hzm]; exact rhe_le (small_mag hb)
          have hrr := fun w => run_round z hz2 _ rfl w
          have hld := Ldexp_any x z (.inr ⟨hb, hz2, hzm⟩)
          generalize rhe (mag z) = N at *
          have hci := fun w => run_convert_float_int (P := Tryz.prog) w 82 3 .f64 .i64 (floatOfInt .f64 (N : Int)) (N : Int) (by kernel_rfl) Tryz.underlying3 (int_of (by omega))
          have Hld := Lib.hid hld
          clear hld hz hz2 hzm hmod hb
          go_enter Tryz.func244, Tryz.ntmps244
          go_wp2_with fail
          refine (kind_num x hx hn _).mono ?_; rintro e w' ⟨k, rfl, rfl, hk0, hkk⟩
          have hk1 : k ≠ 1 ∧ k ≠ 2 ∧ k ≠ 6 := ⟨fun h => Hk.out (hkk.1 (.inl h)), fun h => Hk.out (hkk.1 (.inr (.inl h))), fun h => Hk.out (hkk.1 (.inr (.inr h)))⟩
          obtain ⟨hk1, hk2, hk3⟩ := hk1
          clear hkk
          go_wp2_with fail
          refine (Hld.out _).mono ?_; rintro e w' ⟨rfl, n, rfl⟩
          go_wp2_with fail
          go_ret2
          exact ⟨rfl, n, rfl⟩
        · rw [show 9223372036854775808 % 9223372036854775808 = 0 from rfl, mag_zero, Nat.zero_mul, rhe_zero]
          have hrr := run_round_neg
          have hld := Ldexp_any 9223372036854775808 9223372036854775808 (.inl ⟨rfl, rfl⟩)
          have hci := fun w => run_convert_float_int (P := Tryz.prog) w 82 3 .f64 .i64 9223372036854775808 0 (by kernel_rfl) Tryz.underlying3 (by decide +kernel)
          have Hld := Lib.hid hld
          clear hld
          go_enter Tryz.func244, Tryz.ntmps244
          go_wp2_with fail
          refine (kind_num _ hx hn _).mono ?_; rintro e w' ⟨k, rfl, rfl, hk0, hkk⟩
          have hk1 : k ≠ 1 ∧ k ≠ 2 ∧ k ≠ 6 := ⟨fun h => Hk.out (hkk.1 (.inl h)), fun h => Hk.out (hkk.1 (.inr (.inl h))), fun h => Hk.out (hkk.1 (.inr (.inr h)))⟩
          obtain ⟨hk1, hk2, hk3⟩ := hk1
          clear hkk
          go_wp2_with fail
          refine (Hld.out _).mono ?_; rintro e w' ⟨rfl, n, rfl⟩
          go_wp2_with fail
          go_ret2
          exact ⟨rfl, n, rfl⟩

end Go.Proofs.YtpchhfhmopmagaaGreat.Cl

/- Classes: Units by halving; Right, the program's and the document's. -/
namespace Go.Proofs.YtpchhfhmopmagaaGreat.Cl
open Go.RowKit Fl Wd St

theorem halves_of {x : Nat} (hx : x < 18446744073709551616) (hn : nan x = false) (h1 : flt x 0 = false) (h2 : flt one x = false) :
    ∃ y, floatBits .mul .f64 x c20 = some y ∧ Halves y (mag (x % 9223372036854775808) * 2 ^ 20) := by
  rcases in_bounds hx hn h1 h2 with hb | rfl
  · obtain ⟨y, hy, hh⟩ := halves_pos hb
    have hmod : x % 9223372036854775808 = x := by have : one = 4607182418800017408 := rfl; omega
    rw [hmod]
    exact ⟨y, hy, hh⟩
  · obtain ⟨hy, hh⟩ := halves_neg
    rw [show 9223372036854775808 % 9223372036854775808 = 0 from rfl, mag_zero, Nat.zero_mul]
    exact ⟨_, hy, hh⟩
theorem rhe_eq (A : Nat) : rhe A = A / U + if (decide (U < 2 * (A % U)) || (decide (U = 2 * (A % U)) && decide (A / U % 2 = 1))) = true then 1 else 0 := by
  unfold rhe
  refine congrArg (A / U + ·) ?_
  generalize U = u
  generalize A % u = r
  generalize A / u = q
  by_cases h1 : u < 2 * r <;> by_cases h2 : u = 2 * r <;> by_cases h3 : q % 2 = 1 <;> simp [h1, h2, h3]

set_option maxRecDepth 20000 in
set_option maxHeartbeats 1000000 in
theorem refunits_any (x : Nat) (hx : x < 18446744073709551616) (w : World) : Calls Tryz.prog 209 #[.float .f64 x] w fun e w' => RetU (unitsS x) w e w' := by
  have hnone := none_any x
  cases hn : nan x with
  | true =>
    have hu : unitsS x = (0, 21) := by unfold unitsS; rw [if_pos hn]
    rw [hu]; clear hu
    rw [hn] at hnone
    have Hnone := Lib.hid hnone; clear hnone
    go_enter Tryz.func209, Tryz.ntmps209
    go_wp2_with fail
    refine (Hnone.out _).mono ?_; rintro e w' ⟨rfl, rfl⟩
    go_wp2_with fail
    go_ret2
    exact ⟨rfl, 0, rfl⟩
  | false =>
    rw [hn] at hnone
    have Hnone := Lib.hid hnone; clear hnone
    cases hl : flt x 0 with
    | true =>
      have hu : unitsS x = (0, 2) := by unfold unitsS; rw [if_neg (by rw [hn]; decide), hl]; rfl
      rw [hu]; clear hu
      go_enter Tryz.func209, Tryz.ntmps209
      go_wp2_with fail
      refine (Hnone.out _).mono ?_; rintro e w' ⟨rfl, rfl⟩
      go_wp2_with fail
      go_ret2
      exact ⟨rfl, 0, rfl⟩
    | false =>
      cases hg : flt one x with
      | true =>
        have hu : unitsS x = (0, 2) := by unfold unitsS; rw [if_neg (by rw [hn]; decide), hl, hg]; rfl
        rw [hu]; clear hu
        unfold one at hg
        go_enter Tryz.func209, Tryz.ntmps209
        go_wp2_with fail
        refine (Hnone.out _).mono ?_; rintro e w' ⟨rfl, rfl⟩
        go_wp2_with fail
        go_ret2
        exact ⟨rfl, 0, rfl⟩
      | false =>
        have hu : unitsS x = (rhe (mag (x % 9223372036854775808) * 2 ^ 20), 0) := by unfold unitsS; rw [if_neg (by rw [hn]; decide), hl, hg]; rfl
        rw [hu]; clear hu
        obtain ⟨y, hy, hh⟩ := halves_of hx hn hl hg
        unfold one at hg
        unfold c20 at hy
        have hm1 : ∀ w, fbits .mul x 4697254411347427328 w = y := fun w => by unfold fbits; rw [hy]; rfl
        have hm2 : fcount .mul x 4697254411347427328 = 0 := by unfold fcount; rw [hy]; rfl
        generalize mag (x % 9223372036854775808) * 2 ^ 20 = A at *
        have Hh := Lib.hid hh
        have hq : A / U ≤ 1048576 := by
          have := Nat.div_le_div_right (c := U) hh.top
          rwa [Nat.mul_div_cancel _ U_pos] at this
        clear hy hh
        go_enter Tryz.func209, Tryz.ntmps209
        go_wp2_with fail
        refine (Hnone.out _).mono ?_; rintro e w' ⟨rfl, rfl⟩
        go_wp2_with fail
        go_loopw [5, 6, 7] (fun lo hi _ wr => ∃ a b : Nat, a ≤ A / U ∧ A / U < b ∧ b ≤ 1048577 ∧ lo = .int .i64 a ∧ hi = .int .i64 b ∧ ∃ n, wr = w.drewN n)
          (fun lo hi _ _ => (intOf hi - intOf lo).toNat)
        case atStart => exact ⟨0, 1048577, Nat.zero_le _, Nat.lt_succ_of_le hq, Nat.le_refl _, rfl, rfl, 0, rfl⟩
        case round =>
          obtain ⟨a, b, ha, hb, hb2, rfl, rfl, n, rfl⟩ := hrel
          by_cases hlt : 1 < b - a
          · obtain ⟨m, hm⟩ : ∃ m : Nat, ((a : Int) + (b : Int)) / 2 = (m : Int) := ⟨(a + b) / 2, by omega⟩
            have hma : a < m := by omega
            have hmb : m < b := by omega
            have hle := Hh.out.le m (by omega) (by omega)
            have hle2 : decide (m * U ≤ A) = decide (m ≤ A / U) := by rw [decide_eq_decide]; exact (Nat.le_div_iff_mul_le U_pos).symm
            rw [hle2] at hle
            have i1 : (1 : Int) < (b : Int) - (a : Int) := by omega
            by_cases hmq : m ≤ A / U
            · rw [decide_eq_true hmq] at hle
              clear hle2
              go_wp2
              go_roundw
              case rel => exact ⟨m, b, hmq, hb, hb2, by rw [hm], rfl, _, rfl⟩
              case measure => simp [intOf]; omega
            · rw [decide_eq_false hmq] at hle
              clear hle2
              go_wp2
              go_roundw
              case rel => exact ⟨a, m, ha, by omega, by omega, rfl, by rw [hm], _, rfl⟩
              case measure => simp [intOf]; omega
          · have hab : a = A / U := by omega
            have i1 : ¬ (1 : Int) < (b : Int) - (a : Int) := by omega
            obtain ⟨r, hr1, hr2, hr3, hr4⟩ := Hh.out.rest
            have hre := rhe_eq A
            rw [← hab] at hr1 hr2 hre
            rw [← hr3, ← hr4] at hre
            have Hre := Lib.hid hre
            unfold half at hr3 hr4 hre Hre
            clear hre
            have Hab := Lib.hid hab; clear hab
            cases h3 : flt 4602678819172646912 r with
            | true =>
              rw [h3] at hr3
              clear hr3 hr4
              go_wp2
              go_ret2
              refine ⟨?_, _, rfl⟩
              rw [Hre.out, h3]; rfl
            | false =>
              cases h4 : feq r 4602678819172646912 with
              | false =>
                clear hr3 hr4
                go_wp2
                go_ret2
                refine ⟨?_, _, rfl⟩
                rw [Hre.out, h3, h4]; rfl
              | true =>
                clear hr3 hr4
                by_cases hodd : a % 2 = 1
                · have ho : ((a : Int) % 2 == 1) = true := by rw [beq_iff_eq]; omega
                  go_wp2
                  go_ret2
                  refine ⟨?_, _, rfl⟩
                  rw [Hre.out, h3, h4, if_pos (by simp [hodd])]; rfl
                · have ho : ((a : Int) % 2 == 1) = false := by rw [beq_eq_false_iff_ne]; omega
                  go_wp2
                  go_ret2
                  refine ⟨?_, _, rfl⟩
                  rw [Hre.out, h3, h4, if_neg (by simp [hodd])]; rfl

/-- a class -/
structure Cls where
  id : Int
  parent : Int
  share : Nat
  prio : Int
  quantum : Int
  limit : Int
  weight : Int
  minIdle : Int
  maxIdle : Int
  bounded : Bool
  isolated : Bool
def Cls.cells (c : Cls) : List Value := [.int .i64 c.id, .int .i64 c.parent, .float .f64 c.share, .int .i64 c.prio, .int .i64 c.quantum, .int .i64 c.limit, .int .i64 c.weight, .int .i64 c.minIdle, .int .i64 c.maxIdle, .bool c.bounded, .bool c.isolated]
abbrev Cls.agg (c : Cls) : Value := .agg #[.int .i64 c.id, .int .i64 c.parent, .float .f64 c.share, .int .i64 c.prio, .int .i64 c.quantum, .int .i64 c.limit, .int .i64 c.weight, .int .i64 c.minIdle, .int .i64 c.maxIdle, .bool c.bounded, .bool c.isolated]
/-- the error of a share -/
def fairS (b : Nat) : Int := if (unitsS b).2 = 21 then 21 else if (unitsS b).2 ≠ 0 ∨ (unitsS b).1 = 0 then 13 else 0
/-- whether a class may be, or why not -/
def rightS (c : Cls) : Int :=
  if c.id < 1 ∨ 65535 < c.id ∨ c.parent < 0 ∨ 65535 < c.parent then 2
  else if c.parent = c.id then 11
  else if fairS c.share ≠ 0 then fairS c.share
  else if c.prio < 0 ∨ 7 < c.prio then 14
  else if c.quantum < 1 ∨ 65536 < c.quantum ∨ c.limit < 1 ∨ 1024 < c.limit then 16
  else if c.weight < 0 ∨ 16 < c.weight ∨ c.minIdle < -1099511627776 ∨ 0 < c.minIdle ∨ c.maxIdle < 0 ∨ 1099511627776 < c.maxIdle then 2
  else 0

theorem units_err (b : Nat) : (unitsS b).2 = 21 ∨ (unitsS b).2 = 2 ∨ (unitsS b).2 = 0 := by
  unfold unitsS
  split
  · exact .inl rfl
  · split
    · exact .inr (.inl rfl)
    · exact .inr (.inr rfl)
set_option maxRecDepth 20000 in
set_option maxHeartbeats 400000 in
theorem fair_any (x : Nat) (hx : x < 18446744073709551616) (w : World) : Calls Tryz.prog 230 #[.float .f64 x] w fun e w' => e = .returned (.int .i64 (fairS x)) ∧ ∃ n, w' = w.drewN n := by
  have hu := units_any x hx
  have he := units_err x
  have hf : fairS x = if (unitsS x).2 = 21 then 21 else if (unitsS x).2 ≠ 0 ∨ (unitsS x).1 = 0 then 13 else 0 := rfl
  rw [hf]; clear hf
  generalize unitsS x = u at *
  obtain ⟨a, b⟩ := u
  simp only at he
  have Hu := Lib.hid hu; clear hu
  rcases he with rfl | rfl | rfl
  · go_enter Tryz.func230, Tryz.ntmps230
    go_wp2_with fail
    refine (Hu.out _).mono ?_; rintro e w' ⟨rfl, n, rfl⟩
    go_wp2_with fail
    go_ret
    exact ⟨rfl, _, rfl⟩
  · go_enter Tryz.func230, Tryz.ntmps230
    go_wp2_with fail
    refine (Hu.out _).mono ?_; rintro e w' ⟨rfl, n, rfl⟩
    go_wp2_with fail
    go_ret
    exact ⟨rfl, _, rfl⟩
  · by_cases h0 : a = 0
    · subst h0
      go_enter Tryz.func230, Tryz.ntmps230
      go_wp2_with fail
      refine (Hu.out _).mono ?_; rintro e w' ⟨rfl, n, rfl⟩
      go_wp2_with fail
      go_ret
      exact ⟨rfl, _, rfl⟩
    · have h1 : ((a : Int) == 0) = false := by rw [beq_eq_false_iff_ne]; omega
      have H0 := Lib.hid h0; clear h0
      go_enter Tryz.func230, Tryz.ntmps230
      go_wp2_with fail
      refine (Hu.out _).mono ?_; rintro e w' ⟨rfl, n, rfl⟩
      go_wp2_with fail
      go_ret
      refine ⟨?_, _, rfl⟩
      have h2 : ¬ a = 0 := H0.out
      simp

theorem right_2 {c : Cls} (h : c.id < 1 ∨ 65535 < c.id ∨ c.parent < 0 ∨ 65535 < c.parent) : rightS c = 2 := by unfold rightS; rw [if_pos h]
theorem right_11 {c : Cls} (h : ¬ (c.id < 1 ∨ 65535 < c.id ∨ c.parent < 0 ∨ 65535 < c.parent)) (h2 : c.parent = c.id) : rightS c = 11 := by unfold rightS; rw [if_neg h, if_pos h2]
theorem right_fair {c : Cls} (h : ¬ (c.id < 1 ∨ 65535 < c.id ∨ c.parent < 0 ∨ 65535 < c.parent)) (h2 : ¬ c.parent = c.id) (h3 : fairS c.share ≠ 0) : rightS c = fairS c.share := by
  unfold rightS; rw [if_neg h, if_neg h2, if_pos h3]
theorem right_rest {c : Cls} (h : ¬ (c.id < 1 ∨ 65535 < c.id ∨ c.parent < 0 ∨ 65535 < c.parent)) (h2 : ¬ c.parent = c.id) (h3 : fairS c.share = 0) : rightS c =
    if c.prio < 0 ∨ 7 < c.prio then 14
    else if c.quantum < 1 ∨ 65536 < c.quantum ∨ c.limit < 1 ∨ 1024 < c.limit then 16
    else if c.weight < 0 ∨ 16 < c.weight ∨ c.minIdle < -1099511627776 ∨ 0 < c.minIdle ∨ c.maxIdle < 0 ∨ 1099511627776 < c.maxIdle then 2
    else 0 := by unfold rightS; rw [if_neg h, if_neg h2, if_neg (by rw [h3]; simp)]

def Ret1 (v : Value) (w : World) (e : Ending) (w' : World) : Prop := e = .returned v ∧ Below w.heap.size w w'
theorem between_is {n lo hi : Int} {b : Bool} (h : (decide (lo ≤ n) && decide (n ≤ hi)) = b) (w : World) : Calls Tryz.prog 231 #[.int .i64 n, .int .i64 lo, .int .i64 hi] w fun e w' => e = .returned (.bool b) ∧ w = w' := h ▸ between_any n lo hi w
theorem bt_t {n lo hi : Int} (h : lo ≤ n ∧ n ≤ hi) : (decide (lo ≤ n) && decide (n ≤ hi)) = true := by simp [h.1, h.2]
theorem bt_f {n lo hi : Int} (h : ¬ (lo ≤ n ∧ n ≤ hi)) : (decide (lo ≤ n) && decide (n ≤ hi)) = false := by
  by_cases h1 : lo ≤ n
  · have : ¬ n ≤ hi := fun h2 => h ⟨h1, h2⟩
    simp [this]
  · simp [h1]

set_option maxRecDepth 20000 in
set_option maxHeartbeats 2000000 in
theorem right_any (c : Cls) (hs : c.share < 18446744073709551616) (w : World) : Calls Tryz.prog 185 #[c.agg] w (Ret1 (.int .i64 (rightS c)) w) := by
  have hfair := fair_any c.share hs
  have r2 := @right_2 c; have r11 := @right_11 c; have rf := @right_fair c; have rr := @right_rest c
  obtain ⟨id, parent, share, prio, quantum, limit, weight, minIdle, maxIdle, bounded, isolated⟩ := c
  unfold Cls.agg
  simp only at *
  generalize rightS _ = R at *
  generalize fairS share = fs at *
  have Hfair := Lib.hid hfair; have R2 := Lib.hid r2; have R11 := Lib.hid r11; have Rf := Lib.hid rf; have Rr := Lib.hid rr
  clear hfair r2 r11 rf rr
  by_cases h0 : 1 ≤ id ∧ id ≤ 65535
  · have b0 := Lib.hid (bt_t h0)
    by_cases h1 : 0 ≤ parent ∧ parent ≤ 65535
    · have b1 := Lib.hid (bt_t h1)
      by_cases hpi : parent = id
      · have hr := R11.out (by omega) hpi
        subst hpi; subst hr
        clear h0 h1
        go_enter Tryz.func185, Tryz.ntmps185
        go_wp2_with fail
        refine (Hfair.out _).mono ?_; rintro e w' ⟨rfl, n, rfl⟩
        go_wp2_with fail
        refine (between_is b0.out _).mono ?_; rintro e w' ⟨rfl, rfl⟩
        go_wp2_with fail
        refine (between_is b1.out _).mono ?_; rintro e w' ⟨rfl, rfl⟩
        go_wp2_with fail
        go_ret
        exact ⟨rfl, below_drewN ((Below.refl _ w).alloc (Nat.le_refl _) _) _⟩
      · have hpb : (parent == id) = false := beq_eq_false_iff_ne.2 hpi
        by_cases hfs : fs = 0
        · subst hfs
          by_cases h2 : 0 ≤ prio ∧ prio ≤ 7
          · have b2 := Lib.hid (bt_t h2)
            by_cases h3 : 1 ≤ quantum ∧ quantum ≤ 65536
            · have b3 := Lib.hid (bt_t h3)
              by_cases h4 : 1 ≤ limit ∧ limit ≤ 1024
              · have b4 := Lib.hid (bt_t h4)
                by_cases h5 : 0 ≤ weight ∧ weight ≤ 16
                · have b5 := Lib.hid (bt_t h5)
                  by_cases h6 : -1099511627776 ≤ minIdle ∧ minIdle ≤ 0
                  · have b6 := Lib.hid (bt_t h6)
                    by_cases h7 : 0 ≤ maxIdle ∧ maxIdle ≤ 1099511627776
                    · have b7 := Lib.hid (bt_t h7)
                      have hr := Rr.out (by omega) hpi rfl
                      rw [if_neg (by omega), if_neg (by omega), if_neg (by omega)] at hr
                      subst hr
                      clear h0 h1 h2 h3 h4 h5 h6 h7
                      go_enter Tryz.func185, Tryz.ntmps185
                      go_wp2_with fail
                      refine (Hfair.out _).mono ?_; rintro e w' ⟨rfl, n, rfl⟩
                      go_wp2_with fail
                      refine (between_is b0.out _).mono ?_; rintro e w' ⟨rfl, rfl⟩
                      go_wp2_with fail
                      refine (between_is b1.out _).mono ?_; rintro e w' ⟨rfl, rfl⟩
                      go_wp2_with fail
                      refine (between_is b2.out _).mono ?_; rintro e w' ⟨rfl, rfl⟩
                      go_wp2_with fail
                      refine (between_is b3.out _).mono ?_; rintro e w' ⟨rfl, rfl⟩
                      go_wp2_with fail
                      refine (between_is b4.out _).mono ?_; rintro e w' ⟨rfl, rfl⟩
                      go_wp2_with fail
                      refine (between_is b5.out _).mono ?_; rintro e w' ⟨rfl, rfl⟩
                      go_wp2_with fail
                      refine (between_is b6.out _).mono ?_; rintro e w' ⟨rfl, rfl⟩
                      go_wp2_with fail
                      refine (between_is b7.out _).mono ?_; rintro e w' ⟨rfl, rfl⟩
                      go_wp2_with fail
                      go_ret
                      exact ⟨rfl, below_drewN ((Below.refl _ w).alloc (Nat.le_refl _) _) _⟩
                    · have b7 := Lib.hid (bt_f h7)
                      have hr := Rr.out (by omega) hpi rfl
                      rw [if_neg (by omega), if_neg (by omega), if_pos (by omega)] at hr
                      subst hr
                      clear h0 h1 h2 h3 h4 h5 h6 h7
                      go_enter Tryz.func185, Tryz.ntmps185
                      go_wp2_with fail
                      refine (Hfair.out _).mono ?_; rintro e w' ⟨rfl, n, rfl⟩
                      go_wp2_with fail
                      refine (between_is b0.out _).mono ?_; rintro e w' ⟨rfl, rfl⟩
                      go_wp2_with fail
                      refine (between_is b1.out _).mono ?_; rintro e w' ⟨rfl, rfl⟩
                      go_wp2_with fail
                      refine (between_is b2.out _).mono ?_; rintro e w' ⟨rfl, rfl⟩
                      go_wp2_with fail
                      refine (between_is b3.out _).mono ?_; rintro e w' ⟨rfl, rfl⟩
                      go_wp2_with fail
                      refine (between_is b4.out _).mono ?_; rintro e w' ⟨rfl, rfl⟩
                      go_wp2_with fail
                      refine (between_is b5.out _).mono ?_; rintro e w' ⟨rfl, rfl⟩
                      go_wp2_with fail
                      refine (between_is b6.out _).mono ?_; rintro e w' ⟨rfl, rfl⟩
                      go_wp2_with fail
                      refine (between_is b7.out _).mono ?_; rintro e w' ⟨rfl, rfl⟩
                      go_wp2_with fail
                      go_ret
                      exact ⟨rfl, below_drewN ((Below.refl _ w).alloc (Nat.le_refl _) _) _⟩
                  · have b6 := Lib.hid (bt_f h6)
                    have hr := Rr.out (by omega) hpi rfl
                    rw [if_neg (by omega), if_neg (by omega), if_pos (by omega)] at hr
                    subst hr
                    clear h0 h1 h2 h3 h4 h5 h6
                    go_enter Tryz.func185, Tryz.ntmps185
                    go_wp2_with fail
                    refine (Hfair.out _).mono ?_; rintro e w' ⟨rfl, n, rfl⟩
                    go_wp2_with fail
                    refine (between_is b0.out _).mono ?_; rintro e w' ⟨rfl, rfl⟩
                    go_wp2_with fail
                    refine (between_is b1.out _).mono ?_; rintro e w' ⟨rfl, rfl⟩
                    go_wp2_with fail
                    refine (between_is b2.out _).mono ?_; rintro e w' ⟨rfl, rfl⟩
                    go_wp2_with fail
                    refine (between_is b3.out _).mono ?_; rintro e w' ⟨rfl, rfl⟩
                    go_wp2_with fail
                    refine (between_is b4.out _).mono ?_; rintro e w' ⟨rfl, rfl⟩
                    go_wp2_with fail
                    refine (between_is b5.out _).mono ?_; rintro e w' ⟨rfl, rfl⟩
                    go_wp2_with fail
                    refine (between_is b6.out _).mono ?_; rintro e w' ⟨rfl, rfl⟩
                    go_wp2_with fail
                    go_ret
                    exact ⟨rfl, below_drewN ((Below.refl _ w).alloc (Nat.le_refl _) _) _⟩
                · have b5 := Lib.hid (bt_f h5)
                  have hr := Rr.out (by omega) hpi rfl
                  rw [if_neg (by omega), if_neg (by omega), if_pos (by omega)] at hr
                  subst hr
                  clear h0 h1 h2 h3 h4 h5
                  go_enter Tryz.func185, Tryz.ntmps185
                  go_wp2_with fail
                  refine (Hfair.out _).mono ?_; rintro e w' ⟨rfl, n, rfl⟩
                  go_wp2_with fail
                  refine (between_is b0.out _).mono ?_; rintro e w' ⟨rfl, rfl⟩
                  go_wp2_with fail
                  refine (between_is b1.out _).mono ?_; rintro e w' ⟨rfl, rfl⟩
                  go_wp2_with fail
                  refine (between_is b2.out _).mono ?_; rintro e w' ⟨rfl, rfl⟩
                  go_wp2_with fail
                  refine (between_is b3.out _).mono ?_; rintro e w' ⟨rfl, rfl⟩
                  go_wp2_with fail
                  refine (between_is b4.out _).mono ?_; rintro e w' ⟨rfl, rfl⟩
                  go_wp2_with fail
                  refine (between_is b5.out _).mono ?_; rintro e w' ⟨rfl, rfl⟩
                  go_wp2_with fail
                  go_ret
                  exact ⟨rfl, below_drewN ((Below.refl _ w).alloc (Nat.le_refl _) _) _⟩
              · have b4 := Lib.hid (bt_f h4)
                have hr := Rr.out (by omega) hpi rfl
                rw [if_neg (by omega), if_pos (by omega)] at hr
                subst hr
                clear h0 h1 h2 h3 h4
                go_enter Tryz.func185, Tryz.ntmps185
                go_wp2_with fail
                refine (Hfair.out _).mono ?_; rintro e w' ⟨rfl, n, rfl⟩
                go_wp2_with fail
                refine (between_is b0.out _).mono ?_; rintro e w' ⟨rfl, rfl⟩
                go_wp2_with fail
                refine (between_is b1.out _).mono ?_; rintro e w' ⟨rfl, rfl⟩
                go_wp2_with fail
                refine (between_is b2.out _).mono ?_; rintro e w' ⟨rfl, rfl⟩
                go_wp2_with fail
                refine (between_is b3.out _).mono ?_; rintro e w' ⟨rfl, rfl⟩
                go_wp2_with fail
                refine (between_is b4.out _).mono ?_; rintro e w' ⟨rfl, rfl⟩
                go_wp2_with fail
                go_ret
                exact ⟨rfl, below_drewN ((Below.refl _ w).alloc (Nat.le_refl _) _) _⟩
            · have b3 := Lib.hid (bt_f h3)
              have hr := Rr.out (by omega) hpi rfl
              rw [if_neg (by omega), if_pos (by omega)] at hr
              subst hr
              clear h0 h1 h2 h3
              go_enter Tryz.func185, Tryz.ntmps185
              go_wp2_with fail
              refine (Hfair.out _).mono ?_; rintro e w' ⟨rfl, n, rfl⟩
              go_wp2_with fail
              refine (between_is b0.out _).mono ?_; rintro e w' ⟨rfl, rfl⟩
              go_wp2_with fail
              refine (between_is b1.out _).mono ?_; rintro e w' ⟨rfl, rfl⟩
              go_wp2_with fail
              refine (between_is b2.out _).mono ?_; rintro e w' ⟨rfl, rfl⟩
              go_wp2_with fail
              refine (between_is b3.out _).mono ?_; rintro e w' ⟨rfl, rfl⟩
              go_wp2_with fail
              go_ret
              exact ⟨rfl, below_drewN ((Below.refl _ w).alloc (Nat.le_refl _) _) _⟩
          · have b2 := Lib.hid (bt_f h2)
            have hr := Rr.out (by omega) hpi rfl
            rw [if_pos (by omega)] at hr
            subst hr
            clear h0 h1 h2
            go_enter Tryz.func185, Tryz.ntmps185
            go_wp2_with fail
            refine (Hfair.out _).mono ?_; rintro e w' ⟨rfl, n, rfl⟩
            go_wp2_with fail
            refine (between_is b0.out _).mono ?_; rintro e w' ⟨rfl, rfl⟩
            go_wp2_with fail
            refine (between_is b1.out _).mono ?_; rintro e w' ⟨rfl, rfl⟩
            go_wp2_with fail
            refine (between_is b2.out _).mono ?_; rintro e w' ⟨rfl, rfl⟩
            go_wp2_with fail
            go_ret
            exact ⟨rfl, below_drewN ((Below.refl _ w).alloc (Nat.le_refl _) _) _⟩
        · have hr := Rf.out (by omega) hpi hfs
          subst hr
          have hfb : (R != 0) = true := by rw [bne_iff_ne]; exact hfs
          clear h0 h1 hfs hpi
          go_enter Tryz.func185, Tryz.ntmps185
          go_wp2_with fail
          refine (Hfair.out _).mono ?_; rintro e w' ⟨rfl, n, rfl⟩
          go_wp2_with fail
          refine (between_is b0.out _).mono ?_; rintro e w' ⟨rfl, rfl⟩
          go_wp2_with fail
          refine (between_is b1.out _).mono ?_; rintro e w' ⟨rfl, rfl⟩
          go_wp2_with fail
          go_ret
          exact ⟨rfl, below_drewN ((Below.refl _ w).alloc (Nat.le_refl _) _) _⟩
    · have b1 := Lib.hid (bt_f h1)
      have hr := R2.out (by omega)
      subst hr
      clear h0 h1
      go_enter Tryz.func185, Tryz.ntmps185
      go_wp2_with fail
      refine (Hfair.out _).mono ?_; rintro e w' ⟨rfl, n, rfl⟩
      go_wp2_with fail
      refine (between_is b0.out _).mono ?_; rintro e w' ⟨rfl, rfl⟩
      go_wp2_with fail
      refine (between_is b1.out _).mono ?_; rintro e w' ⟨rfl, rfl⟩
      go_wp2_with fail
      go_ret
      exact ⟨rfl, below_drewN ((Below.refl _ w).alloc (Nat.le_refl _) _) _⟩
  · have b0 := Lib.hid (bt_f h0)
    have hr := R2.out (by omega)
    subst hr
    clear h0
    go_enter Tryz.func185, Tryz.ntmps185
    go_wp2_with fail
    refine (Hfair.out _).mono ?_; rintro e w' ⟨rfl, n, rfl⟩
    go_wp2_with fail
    refine (between_is b0.out _).mono ?_; rintro e w' ⟨rfl, rfl⟩
    go_wp2_with fail
    go_ret
    exact ⟨rfl, below_drewN ((Below.refl _ w).alloc (Nat.le_refl _) _) _⟩

end Go.Proofs.YtpchhfhmopmagaaGreat.Cl

/- Classes: the document's Right; Units; Same; Borrows. -/
namespace Go.Proofs.YtpchhfhmopmagaaGreat.Cl
open Go.RowKit Fl Wd St

set_option maxRecDepth 20000 in
set_option maxHeartbeats 4000000 in
theorem refright_any (c : Cls) (hs : c.share < 18446744073709551616) (w : World) : Calls Tryz.prog 146 #[c.agg] w (Ret1 (.int .i64 (rightS c)) w) := by
  have hu := refunits_any c.share hs
  have he := units_err c.share
  have hf : fairS c.share = if (unitsS c.share).2 = 21 then 21 else if (unitsS c.share).2 ≠ 0 ∨ (unitsS c.share).1 = 0 then 13 else 0 := rfl
  have r2 := @right_2 c; have r11 := @right_11 c; have rf := @right_fair c; have rr := @right_rest c
  obtain ⟨id, parent, share, prio, quantum, limit, weight, minIdle, maxIdle, bounded, isolated⟩ := c
  unfold Cls.agg
  simp only at *
  generalize rightS _ = R at *
  generalize fairS share = fs at *
  generalize unitsS share = u at *
  obtain ⟨a, b⟩ := u
  simp only at he hf
  have Hu := Lib.hid hu; have R2 := Lib.hid r2; have R11 := Lib.hid r11; have Rf := Lib.hid rf; have Rr := Lib.hid rr; have Hfs := Lib.hid hf
  clear hu r2 r11 rf rr hf
  by_cases l0 : id < 1
  · have := l0
    have hr := R2.out (by omega)
    subst hr
    go_enter Tryz.func146, Tryz.ntmps146
    go_wp2_with fail
    go_ret
    exact ⟨rfl, by first | exact below_drewN ((Below.refl _ w).alloc (Nat.le_refl _) _) _ | exact (Below.refl _ w).alloc (Nat.le_refl _) _⟩
  · by_cases g0 : 65535 < id
    · have := g0
      have hr := R2.out (by omega)
      subst hr
      go_enter Tryz.func146, Tryz.ntmps146
      go_wp2_with fail
      go_ret
      exact ⟨rfl, by first | exact below_drewN ((Below.refl _ w).alloc (Nat.le_refl _) _) _ | exact (Below.refl _ w).alloc (Nat.le_refl _) _⟩
    · skip
      by_cases l1 : parent < 0
      · have := l1
        have hr := R2.out (by omega)
        subst hr
        go_enter Tryz.func146, Tryz.ntmps146
        go_wp2_with fail
        go_ret
        exact ⟨rfl, by first | exact below_drewN ((Below.refl _ w).alloc (Nat.le_refl _) _) _ | exact (Below.refl _ w).alloc (Nat.le_refl _) _⟩
      · by_cases g1 : 65535 < parent
        · have := g1
          have hr := R2.out (by omega)
          subst hr
          go_enter Tryz.func146, Tryz.ntmps146
          go_wp2_with fail
          go_ret
          exact ⟨rfl, by first | exact below_drewN ((Below.refl _ w).alloc (Nat.le_refl _) _) _ | exact (Below.refl _ w).alloc (Nat.le_refl _) _⟩
        · skip
          by_cases hpi : parent = id
          · have hr := R11.out (by omega) hpi
            subst hpi; subst hr
            go_enter Tryz.func146, Tryz.ntmps146
            go_wp2_with fail
            go_ret
            exact ⟨rfl, by first | exact below_drewN ((Below.refl _ w).alloc (Nat.le_refl _) _) _ | exact (Below.refl _ w).alloc (Nat.le_refl _) _⟩
          · have hpb : (id == parent) = false := beq_eq_false_iff_ne.2 (fun h => hpi h.symm)
            rcases he with rfl | rfl | rfl
            · have hr := Rf.out (by omega) hpi (by rw [Hfs.out]; simp)
              rw [Hfs.out] at hr; simp at hr; subst hr
              go_enter Tryz.func146, Tryz.ntmps146
              go_wp2_with fail
              refine (Hu.out _).mono ?_; rintro e w' ⟨rfl, n, rfl⟩
              go_wp2_with fail
              go_ret
              exact ⟨rfl, by first | exact below_drewN ((Below.refl _ w).alloc (Nat.le_refl _) _) _ | exact (Below.refl _ w).alloc (Nat.le_refl _) _⟩
            · have hr := Rf.out (by omega) hpi (by rw [Hfs.out]; simp)
              rw [Hfs.out] at hr; simp at hr; subst hr
              go_enter Tryz.func146, Tryz.ntmps146
              go_wp2_with fail
              refine (Hu.out _).mono ?_; rintro e w' ⟨rfl, n, rfl⟩
              go_wp2_with fail
              go_ret
              exact ⟨rfl, by first | exact below_drewN ((Below.refl _ w).alloc (Nat.le_refl _) _) _ | exact (Below.refl _ w).alloc (Nat.le_refl _) _⟩
            · by_cases ha : a = 0
              · subst ha
                have hr := Rf.out (by omega) hpi (by rw [Hfs.out]; simp)
                rw [Hfs.out] at hr; simp at hr; subst hr
                go_enter Tryz.func146, Tryz.ntmps146
                go_wp2_with fail
                refine (Hu.out _).mono ?_; rintro e w' ⟨rfl, n, rfl⟩
                go_wp2_with fail
                go_ret
                exact ⟨rfl, by first | exact below_drewN ((Below.refl _ w).alloc (Nat.le_refl _) _) _ | exact (Below.refl _ w).alloc (Nat.le_refl _) _⟩
              · have hfs : fs = 0 := by rw [Hfs.out]; simp [ha]
                have ha1 : 1 ≤ (a : Int) := by omega
                by_cases l2 : prio < 0
                · have := l2
                  have hr := Rr.out (by omega) hpi hfs
                  rw [if_pos (by omega)] at hr
                  clear hfs
                  subst hr
                  go_enter Tryz.func146, Tryz.ntmps146
                  go_wp2_with fail
                  refine (Hu.out _).mono ?_; rintro e w' ⟨rfl, n, rfl⟩
                  go_wp2_with fail
                  go_ret
                  exact ⟨rfl, by first | exact below_drewN ((Below.refl _ w).alloc (Nat.le_refl _) _) _ | exact (Below.refl _ w).alloc (Nat.le_refl _) _⟩
                · by_cases g2 : 7 < prio
                  · have := g2
                    have hr := Rr.out (by omega) hpi hfs
                    rw [if_pos (by omega)] at hr
                    clear hfs
                    subst hr
                    go_enter Tryz.func146, Tryz.ntmps146
                    go_wp2_with fail
                    refine (Hu.out _).mono ?_; rintro e w' ⟨rfl, n, rfl⟩
                    go_wp2_with fail
                    go_ret
                    exact ⟨rfl, by first | exact below_drewN ((Below.refl _ w).alloc (Nat.le_refl _) _) _ | exact (Below.refl _ w).alloc (Nat.le_refl _) _⟩
                  · skip
                    by_cases l3 : quantum < 1
                    · have := l3
                      have hr := Rr.out (by omega) hpi hfs
                      rw [if_neg (by omega), if_pos (by omega)] at hr
                      clear hfs
                      subst hr
                      go_enter Tryz.func146, Tryz.ntmps146
                      go_wp2_with fail
                      refine (Hu.out _).mono ?_; rintro e w' ⟨rfl, n, rfl⟩
                      go_wp2_with fail
                      go_ret
                      exact ⟨rfl, by first | exact below_drewN ((Below.refl _ w).alloc (Nat.le_refl _) _) _ | exact (Below.refl _ w).alloc (Nat.le_refl _) _⟩
                    · by_cases g3 : 65536 < quantum
                      · have := g3
                        have hr := Rr.out (by omega) hpi hfs
                        rw [if_neg (by omega), if_pos (by omega)] at hr
                        clear hfs
                        subst hr
                        go_enter Tryz.func146, Tryz.ntmps146
                        go_wp2_with fail
                        refine (Hu.out _).mono ?_; rintro e w' ⟨rfl, n, rfl⟩
                        go_wp2_with fail
                        go_ret
                        exact ⟨rfl, by first | exact below_drewN ((Below.refl _ w).alloc (Nat.le_refl _) _) _ | exact (Below.refl _ w).alloc (Nat.le_refl _) _⟩
                      · skip
                        by_cases l4 : limit < 1
                        · have := l4
                          have hr := Rr.out (by omega) hpi hfs
                          rw [if_neg (by omega), if_pos (by omega)] at hr
                          clear hfs
                          subst hr
                          go_enter Tryz.func146, Tryz.ntmps146
                          go_wp2_with fail
                          refine (Hu.out _).mono ?_; rintro e w' ⟨rfl, n, rfl⟩
                          go_wp2_with fail
                          go_ret
                          exact ⟨rfl, by first | exact below_drewN ((Below.refl _ w).alloc (Nat.le_refl _) _) _ | exact (Below.refl _ w).alloc (Nat.le_refl _) _⟩
                        · by_cases g4 : 1024 < limit
                          · have := g4
                            have hr := Rr.out (by omega) hpi hfs
                            rw [if_neg (by omega), if_pos (by omega)] at hr
                            clear hfs
                            subst hr
                            go_enter Tryz.func146, Tryz.ntmps146
                            go_wp2_with fail
                            refine (Hu.out _).mono ?_; rintro e w' ⟨rfl, n, rfl⟩
                            go_wp2_with fail
                            go_ret
                            exact ⟨rfl, by first | exact below_drewN ((Below.refl _ w).alloc (Nat.le_refl _) _) _ | exact (Below.refl _ w).alloc (Nat.le_refl _) _⟩
                          · skip
                            by_cases l5 : weight < 0
                            · have := l5
                              have hr := Rr.out (by omega) hpi hfs
                              rw [if_neg (by omega), if_neg (by omega), if_pos (by omega)] at hr
                              clear hfs
                              subst hr
                              go_enter Tryz.func146, Tryz.ntmps146
                              go_wp2_with fail
                              refine (Hu.out _).mono ?_; rintro e w' ⟨rfl, n, rfl⟩
                              go_wp2_with fail
                              go_ret
                              exact ⟨rfl, by first | exact below_drewN ((Below.refl _ w).alloc (Nat.le_refl _) _) _ | exact (Below.refl _ w).alloc (Nat.le_refl _) _⟩
                            · by_cases g5 : 16 < weight
                              · have := g5
                                have hr := Rr.out (by omega) hpi hfs
                                rw [if_neg (by omega), if_neg (by omega), if_pos (by omega)] at hr
                                clear hfs
                                subst hr
                                go_enter Tryz.func146, Tryz.ntmps146
                                go_wp2_with fail
                                refine (Hu.out _).mono ?_; rintro e w' ⟨rfl, n, rfl⟩
                                go_wp2_with fail
                                go_ret
                                exact ⟨rfl, by first | exact below_drewN ((Below.refl _ w).alloc (Nat.le_refl _) _) _ | exact (Below.refl _ w).alloc (Nat.le_refl _) _⟩
                              · skip
                                by_cases l6 : minIdle < -1099511627776
                                · have := l6
                                  have hr := Rr.out (by omega) hpi hfs
                                  rw [if_neg (by omega), if_neg (by omega), if_pos (by omega)] at hr
                                  clear hfs
                                  subst hr
                                  go_enter Tryz.func146, Tryz.ntmps146
                                  go_wp2_with fail
                                  refine (Hu.out _).mono ?_; rintro e w' ⟨rfl, n, rfl⟩
                                  go_wp2_with fail
                                  go_ret
                                  exact ⟨rfl, by first | exact below_drewN ((Below.refl _ w).alloc (Nat.le_refl _) _) _ | exact (Below.refl _ w).alloc (Nat.le_refl _) _⟩
                                · by_cases g6 : 0 < minIdle
                                  · have := g6
                                    have hr := Rr.out (by omega) hpi hfs
                                    rw [if_neg (by omega), if_neg (by omega), if_pos (by omega)] at hr
                                    clear hfs
                                    subst hr
                                    go_enter Tryz.func146, Tryz.ntmps146
                                    go_wp2_with fail
                                    refine (Hu.out _).mono ?_; rintro e w' ⟨rfl, n, rfl⟩
                                    go_wp2_with fail
                                    go_ret
                                    exact ⟨rfl, by first | exact below_drewN ((Below.refl _ w).alloc (Nat.le_refl _) _) _ | exact (Below.refl _ w).alloc (Nat.le_refl _) _⟩
                                  · skip
                                    by_cases l7 : maxIdle < 0
                                    · have := l7
                                      have hr := Rr.out (by omega) hpi hfs
                                      rw [if_neg (by omega), if_neg (by omega), if_pos (by omega)] at hr
                                      clear hfs
                                      subst hr
                                      go_enter Tryz.func146, Tryz.ntmps146
                                      go_wp2_with fail
                                      refine (Hu.out _).mono ?_; rintro e w' ⟨rfl, n, rfl⟩
                                      go_wp2_with fail
                                      go_ret
                                      exact ⟨rfl, by first | exact below_drewN ((Below.refl _ w).alloc (Nat.le_refl _) _) _ | exact (Below.refl _ w).alloc (Nat.le_refl _) _⟩
                                    · by_cases g7 : 1099511627776 < maxIdle
                                      · have := g7
                                        have hr := Rr.out (by omega) hpi hfs
                                        rw [if_neg (by omega), if_neg (by omega), if_pos (by omega)] at hr
                                        clear hfs
                                        subst hr
                                        go_enter Tryz.func146, Tryz.ntmps146
                                        go_wp2_with fail
                                        refine (Hu.out _).mono ?_; rintro e w' ⟨rfl, n, rfl⟩
                                        go_wp2_with fail
                                        go_ret
                                        exact ⟨rfl, by first | exact below_drewN ((Below.refl _ w).alloc (Nat.le_refl _) _) _ | exact (Below.refl _ w).alloc (Nat.le_refl _) _⟩
                                      · skip
                                        have hr := Rr.out (by omega) hpi hfs
                                        rw [if_neg (by omega), if_neg (by omega), if_neg (by omega)] at hr
                                        clear hfs
                                        subst hr
                                        go_enter Tryz.func146, Tryz.ntmps146
                                        go_wp2_with fail
                                        refine (Hu.out _).mono ?_; rintro e w' ⟨rfl, n, rfl⟩
                                        go_wp2_with fail
                                        go_ret
                                        exact ⟨rfl, by first | exact below_drewN ((Below.refl _ w).alloc (Nat.le_refl _) _) _ | exact (Below.refl _ w).alloc (Nat.le_refl _) _⟩

theorem unitsc_any (c : Cls) (hs : c.share < 18446744073709551616) (w : World) : Calls Tryz.prog 200 #[c.agg] w (Ret1 (.int .i64 ((unitsS c.share).1 : Int)) w) := by
  have hu := units_any c.share hs
  obtain ⟨id, parent, share, prio, quantum, limit, weight, minIdle, maxIdle, bounded, isolated⟩ := c
  unfold Cls.agg
  simp only at *
  generalize unitsS share = u at *
  obtain ⟨a, b⟩ := u
  have Hu := Lib.hid hu; clear hu
  go_enter Tryz.func200, Tryz.ntmps200
  go_wp2_with fail
  refine (Hu.out _).mono ?_; rintro e w' ⟨rfl, n, rfl⟩
  go_wp2_with fail
  go_ret
  exact ⟨rfl, below_drewN ((Below.refl _ w).alloc (Nat.le_refl _) _) _⟩
theorem refunitsc_any (c : Cls) (hs : c.share < 18446744073709551616) (w : World) : Calls Tryz.prog 215 #[c.agg] w (Ret1 (.int .i64 ((unitsS c.share).1 : Int)) w) := by
  have hu := refunits_any c.share hs
  obtain ⟨id, parent, share, prio, quantum, limit, weight, minIdle, maxIdle, bounded, isolated⟩ := c
  unfold Cls.agg
  simp only at *
  generalize unitsS share = u at *
  obtain ⟨a, b⟩ := u
  have Hu := Lib.hid hu; clear hu
  go_enter Tryz.func215, Tryz.ntmps215
  go_wp2_with fail
  refine (Hu.out _).mono ?_; rintro e w' ⟨rfl, n, rfl⟩
  go_wp2_with fail
  go_ret
  exact ⟨rfl, below_drewN ((Below.refl _ w).alloc (Nat.le_refl _) _) _⟩
end Go.Proofs.YtpchhfhmopmagaaGreat.Cl

/- Classes: Same, the program's and the document's. -/
namespace Go.Proofs.YtpchhfhmopmagaaGreat.Cl
open Go.RowKit Fl Wd St
attribute [local go_sem] run_store_float

@[go_sem] theorem run_equalIn_f64 (d a b : Nat) (w : World) : (Op.equalIn (d + 1) 82 (.float .f64 a) (.float .f64 b)).run Tryz.prog w = .ok (feq a b) w := by
  simp [Op.equalIn, run_underlying Tryz.underlying82, Op.floatEq, order_eq64]
theorem sharesame_any (a b : Nat) (w : World) : Calls Tryz.prog 165 #[.float .f64 a, .float .f64 b] w fun e w' => e = .returned (.bool (same a b)) ∧ w = w' := by
  cases hna : nan a with
  | true =>
    cases hnb : nan b with
    | true =>
      have e : same a b = true := by simp [same, cf_nan hna, cf_nan hnb]
      rw [e]; clear e
      go_enter Tryz.func165, Tryz.ntmps165
      go_wp2_with fail
      refine (isnan_is _ true hna _).mono ?_; rintro e w' ⟨rfl, rfl⟩
      go_wp2_with fail
      refine (isnan_is _ true hnb _).mono ?_; rintro e w' ⟨rfl, rfl⟩
      go_wp2_with fail
      go_ret
      exact ⟨rfl, rfl⟩
    | false =>
      have e : same a b = false := by
        simp only [same, cf_nan hna, cf_num hnb, beq_eq_false_iff_ne]
        intro h; rw [← h, nan_nanC] at hnb; cases hnb
      have hne : ((a : Int) == (b : Int)) = false := by
        rw [beq_eq_false_iff_ne]; intro h
        have : a = b := by omega
        subst this; rw [hna] at hnb; cases hnb
      rw [e]; clear e
      go_enter Tryz.func165, Tryz.ntmps165
      go_wp2_with fail
      refine (isnan_is _ true hna _).mono ?_; rintro e w' ⟨rfl, rfl⟩
      go_wp2_with fail
      refine (isnan_is _ false hnb _).mono ?_; rintro e w' ⟨rfl, rfl⟩
      go_wp2_with fail
      go_ret
      exact ⟨rfl, rfl⟩
  | false =>
    have e : ((a : Int) == (b : Int)) = same a b := by
      unfold same
      rw [cf_num hna, Bool.eq_iff_iff, beq_iff_eq, beq_iff_eq]
      constructor
      · intro h
        have : a = b := by omega
        subst this; exact (cf_num hna).symm
      · intro h
        cases hnb : nan b with
        | true => rw [cf_nan hnb] at h; rw [h, nan_nanC] at hna; cases hna
        | false => rw [cf_num hnb] at h; omega
    have E := Lib.hid e; clear e
    go_enter Tryz.func165, Tryz.ntmps165
    go_wp2_with fail
    refine (isnan_is _ false hna _).mono ?_; rintro e w' ⟨rfl, rfl⟩
    go_wp2_with fail
    go_ret
    exact ⟨by rw [← E.out]; rfl, rfl⟩

/-- all but the share -/
def restEq (a b : Cls) : Bool := a.id == b.id && a.parent == b.parent && a.prio == b.prio && a.quantum == b.quantum && a.limit == b.limit && a.weight == b.weight && a.minIdle == b.minIdle && a.maxIdle == b.maxIdle && a.bounded == b.bounded && a.isolated == b.isolated
def sameS (a b : Cls) : Bool := same a.share b.share && restEq a b

set_option maxRecDepth 20000 in
set_option maxHeartbeats 4000000 in
theorem same_c1 (a b : Cls) (hsm : same a.share b.share = true) (w : World) : Calls Tryz.prog 96 #[a.agg, b.agg] w (Ret1 (.bool (restEq a b)) w) := by
  have hs := sharesame_any a.share b.share
  obtain ⟨id1, parent1, share1, prio1, quantum1, limit1, weight1, minIdle1, maxIdle1, b1, i1⟩ := a
  obtain ⟨id2, parent2, share2, prio2, quantum2, limit2, weight2, minIdle2, maxIdle2, b2, i2⟩ := b
  unfold Cls.agg
  simp only at *
  rw [hsm] at hs
  have hf0 : feq 0 0 = true := by decide +kernel
  have Hs := Lib.hid hs; clear hs hsm
  by_cases h0 : id1 = id2
  · subst h0
    by_cases h1 : parent1 = parent2
    · subst h1
      by_cases h2 : prio1 = prio2
      · subst h2
        by_cases h3 : quantum1 = quantum2
        · subst h3
          by_cases h4 : limit1 = limit2
          · subst h4
            by_cases h5 : weight1 = weight2
            · subst h5
              by_cases h6 : minIdle1 = minIdle2
              · subst h6
                by_cases h7 : maxIdle1 = maxIdle2
                · subst h7
                  skip
                  cases b1 <;> cases b2 <;> cases i1 <;> cases i2
                  all_goals
                    simp [restEq]
                    go_enter Tryz.func96, Tryz.ntmps96
                    go_wp2_with fail
                    refine (Hs.out _).mono ?_; rintro e w' ⟨rfl, rfl⟩
                    go_wp2_with fail
                    go_ret
                    exact ⟨rfl, by first | exact (((((Below.refl _ w).alloc (Nat.le_refl _) _).alloc (by simp) _).setCell (by simp) _).setCell (by simp) _) | exact (((Below.refl _ w).alloc (Nat.le_refl _) _).alloc (by simp) _)⟩
                · have e7 : (maxIdle1 == maxIdle2) = false := beq_eq_false_iff_ne.2 h7
                  have n7 : (maxIdle1 != maxIdle2) = true := bne_iff_ne.2 h7
                  have hr : restEq ⟨id1, parent1, share1, prio1, quantum1, limit1, weight1, minIdle1, maxIdle1, b1, i1⟩ ⟨id1, parent1, share2, prio1, quantum1, limit1, weight1, minIdle1, maxIdle2, b2, i2⟩ = false := by simp [restEq, h7]
                  rw [hr]; clear hr h7
                  go_enter Tryz.func96, Tryz.ntmps96
                  go_wp2_with fail
                  refine (Hs.out _).mono ?_; rintro e w' ⟨rfl, rfl⟩
                  go_wp2_with fail
                  go_ret
                  exact ⟨rfl, by first | exact (((((Below.refl _ w).alloc (Nat.le_refl _) _).alloc (by simp) _).setCell (by simp) _).setCell (by simp) _) | exact (((Below.refl _ w).alloc (Nat.le_refl _) _).alloc (by simp) _)⟩
              · have e6 : (minIdle1 == minIdle2) = false := beq_eq_false_iff_ne.2 h6
                have n6 : (minIdle1 != minIdle2) = true := bne_iff_ne.2 h6
                have hr : restEq ⟨id1, parent1, share1, prio1, quantum1, limit1, weight1, minIdle1, maxIdle1, b1, i1⟩ ⟨id1, parent1, share2, prio1, quantum1, limit1, weight1, minIdle2, maxIdle2, b2, i2⟩ = false := by simp [restEq, h6]
                rw [hr]; clear hr h6
                go_enter Tryz.func96, Tryz.ntmps96
                go_wp2_with fail
                refine (Hs.out _).mono ?_; rintro e w' ⟨rfl, rfl⟩
                go_wp2_with fail
                go_ret
                exact ⟨rfl, by first | exact (((((Below.refl _ w).alloc (Nat.le_refl _) _).alloc (by simp) _).setCell (by simp) _).setCell (by simp) _) | exact (((Below.refl _ w).alloc (Nat.le_refl _) _).alloc (by simp) _)⟩
            · have e5 : (weight1 == weight2) = false := beq_eq_false_iff_ne.2 h5
              have n5 : (weight1 != weight2) = true := bne_iff_ne.2 h5
              have hr : restEq ⟨id1, parent1, share1, prio1, quantum1, limit1, weight1, minIdle1, maxIdle1, b1, i1⟩ ⟨id1, parent1, share2, prio1, quantum1, limit1, weight2, minIdle2, maxIdle2, b2, i2⟩ = false := by simp [restEq, h5]
              rw [hr]; clear hr h5
              go_enter Tryz.func96, Tryz.ntmps96
              go_wp2_with fail
              refine (Hs.out _).mono ?_; rintro e w' ⟨rfl, rfl⟩
              go_wp2_with fail
              go_ret
              exact ⟨rfl, by first | exact (((((Below.refl _ w).alloc (Nat.le_refl _) _).alloc (by simp) _).setCell (by simp) _).setCell (by simp) _) | exact (((Below.refl _ w).alloc (Nat.le_refl _) _).alloc (by simp) _)⟩
          · have e4 : (limit1 == limit2) = false := beq_eq_false_iff_ne.2 h4
            have n4 : (limit1 != limit2) = true := bne_iff_ne.2 h4
            have hr : restEq ⟨id1, parent1, share1, prio1, quantum1, limit1, weight1, minIdle1, maxIdle1, b1, i1⟩ ⟨id1, parent1, share2, prio1, quantum1, limit2, weight2, minIdle2, maxIdle2, b2, i2⟩ = false := by simp [restEq, h4]
            rw [hr]; clear hr h4
            go_enter Tryz.func96, Tryz.ntmps96
            go_wp2_with fail
            refine (Hs.out _).mono ?_; rintro e w' ⟨rfl, rfl⟩
            go_wp2_with fail
            go_ret
            exact ⟨rfl, by first | exact (((((Below.refl _ w).alloc (Nat.le_refl _) _).alloc (by simp) _).setCell (by simp) _).setCell (by simp) _) | exact (((Below.refl _ w).alloc (Nat.le_refl _) _).alloc (by simp) _)⟩
        · have e3 : (quantum1 == quantum2) = false := beq_eq_false_iff_ne.2 h3
          have n3 : (quantum1 != quantum2) = true := bne_iff_ne.2 h3
          have hr : restEq ⟨id1, parent1, share1, prio1, quantum1, limit1, weight1, minIdle1, maxIdle1, b1, i1⟩ ⟨id1, parent1, share2, prio1, quantum2, limit2, weight2, minIdle2, maxIdle2, b2, i2⟩ = false := by simp [restEq, h3]
          rw [hr]; clear hr h3
          go_enter Tryz.func96, Tryz.ntmps96
          go_wp2_with fail
          refine (Hs.out _).mono ?_; rintro e w' ⟨rfl, rfl⟩
          go_wp2_with fail
          go_ret
          exact ⟨rfl, by first | exact (((((Below.refl _ w).alloc (Nat.le_refl _) _).alloc (by simp) _).setCell (by simp) _).setCell (by simp) _) | exact (((Below.refl _ w).alloc (Nat.le_refl _) _).alloc (by simp) _)⟩
      · have e2 : (prio1 == prio2) = false := beq_eq_false_iff_ne.2 h2
        have n2 : (prio1 != prio2) = true := bne_iff_ne.2 h2
        have hr : restEq ⟨id1, parent1, share1, prio1, quantum1, limit1, weight1, minIdle1, maxIdle1, b1, i1⟩ ⟨id1, parent1, share2, prio2, quantum2, limit2, weight2, minIdle2, maxIdle2, b2, i2⟩ = false := by simp [restEq, h2]
        rw [hr]; clear hr h2
        go_enter Tryz.func96, Tryz.ntmps96
        go_wp2_with fail
        refine (Hs.out _).mono ?_; rintro e w' ⟨rfl, rfl⟩
        go_wp2_with fail
        go_ret
        exact ⟨rfl, by first | exact (((((Below.refl _ w).alloc (Nat.le_refl _) _).alloc (by simp) _).setCell (by simp) _).setCell (by simp) _) | exact (((Below.refl _ w).alloc (Nat.le_refl _) _).alloc (by simp) _)⟩
    · have e1 : (parent1 == parent2) = false := beq_eq_false_iff_ne.2 h1
      have n1 : (parent1 != parent2) = true := bne_iff_ne.2 h1
      have hr : restEq ⟨id1, parent1, share1, prio1, quantum1, limit1, weight1, minIdle1, maxIdle1, b1, i1⟩ ⟨id1, parent2, share2, prio2, quantum2, limit2, weight2, minIdle2, maxIdle2, b2, i2⟩ = false := by simp [restEq, h1]
      rw [hr]; clear hr h1
      go_enter Tryz.func96, Tryz.ntmps96
      go_wp2_with fail
      refine (Hs.out _).mono ?_; rintro e w' ⟨rfl, rfl⟩
      go_wp2_with fail
      go_ret
      exact ⟨rfl, by first | exact (((((Below.refl _ w).alloc (Nat.le_refl _) _).alloc (by simp) _).setCell (by simp) _).setCell (by simp) _) | exact (((Below.refl _ w).alloc (Nat.le_refl _) _).alloc (by simp) _)⟩
  · have e0 : (id1 == id2) = false := beq_eq_false_iff_ne.2 h0
    have n0 : (id1 != id2) = true := bne_iff_ne.2 h0
    have hr : restEq ⟨id1, parent1, share1, prio1, quantum1, limit1, weight1, minIdle1, maxIdle1, b1, i1⟩ ⟨id2, parent2, share2, prio2, quantum2, limit2, weight2, minIdle2, maxIdle2, b2, i2⟩ = false := by simp [restEq, h0]
    rw [hr]; clear hr h0
    go_enter Tryz.func96, Tryz.ntmps96
    go_wp2_with fail
    refine (Hs.out _).mono ?_; rintro e w' ⟨rfl, rfl⟩
    go_wp2_with fail
    go_ret
    exact ⟨rfl, by first | exact (((((Below.refl _ w).alloc (Nat.le_refl _) _).alloc (by simp) _).setCell (by simp) _).setCell (by simp) _) | exact (((Below.refl _ w).alloc (Nat.le_refl _) _).alloc (by simp) _)⟩

theorem same_c (a b : Cls) (w : World) : Calls Tryz.prog 96 #[a.agg, b.agg] w (Ret1 (.bool (sameS a b)) w) := by
  have hs := sharesame_any a.share b.share
  have he : sameS a b = (same a.share b.share && restEq a b) := rfl
  rw [he]; clear he
  cases hsm : same a.share b.share with
  | false =>
    rw [hsm] at hs
    have Hs := Lib.hid hs; clear hs hsm
    unfold Cls.agg
    go_enter Tryz.func96, Tryz.ntmps96
    go_wp2_with fail
    refine (Hs.out _).mono ?_; rintro e w' ⟨rfl, rfl⟩
    go_wp2_with fail
    go_ret
    exact ⟨rfl, (((Below.refl _ w).alloc (Nat.le_refl _) _).alloc (by simp) _)⟩
  | true => exact same_c1 a b hsm w

end Go.Proofs.YtpchhfhmopmagaaGreat.Cl

/- Classes: the document's Same; with a share's bits; the examples; the law ClassTells. -/
namespace Go.Proofs.YtpchhfhmopmagaaGreat.Cl
open Go.RowKit Fl Wd St Rel
attribute [local go_sem] run_store_float

end Go.Proofs.YtpchhfhmopmagaaGreat.Cl

/- Classes: with a share's bits; the document's examples. -/
namespace Go.Proofs.YtpchhfhmopmagaaGreat.Cl
open Go.RowKit Fl Wd St Rel
attribute [local go_sem] run_store_float

def Cls.with (c : Cls) (b : Nat) : Cls := { c with share := b }
end Go.Proofs.YtpchhfhmopmagaaGreat.Cl
