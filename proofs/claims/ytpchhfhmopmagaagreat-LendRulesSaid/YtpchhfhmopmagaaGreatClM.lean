/- Shares: Kind, Units (the program's and the document's), Same. Shares: Ldexp of a small one, and of any; Units, the program's and the document's. Classes: Units by halving; Right, the program's and the document's. Classes: the document's Right; Units; Same; Borrows. Classes: Same, the program's and the document's. Classes: the document's Same; with a share's bits; the examples; the law ClassTells. Classes: with a share's bits; the document's examples. -/
import Derived.Test.YtpchhfhmopmagaaGreatUn2
import Derived.Test.YtpchhfhmopmagaaGreatRel
set_option linter.unusedVariables false
set_option linter.unusedSimpArgs false
/- Shares: Kind, Units (the program's and the document's), Same. -/
namespace Go.Proofs.YtpchhfhmopmagaaGreat.Cl
open Go.RowKit Fl Wd St

theorem between_any (n lo hi : Int) (w : World) : Calls Tryz.prog 231 #[.int .i64 n, .int .i64 lo, .int .i64 hi] w fun e w' => e = .returned (.bool (decide (lo ≤ n) && decide (n ≤ hi))) ∧ w = w' := by
  by_cases h : lo ≤ n
  · go_enter Tryz.func231, Tryz.ntmps231
    go_wp2
    go_ret
    exact ⟨by simp [h], rfl⟩
  · go_enter Tryz.func231, Tryz.ntmps231
    go_wp2
    go_ret
    exact ⟨by rw [decide_eq_false (by omega : ¬ lo ≤ n)]; rfl, rfl⟩

def negB (x : Nat) : Nat := if x < 9223372036854775808 then x + 9223372036854775808 else x - 9223372036854775808
theorem negFloat_all {x : Nat} (h : x < 18446744073709551616) : Op.negFloat .f64 x = negB x := by
  unfold negB
  split
  · rename_i hx
    unfold Op.negFloat
    have e : 2 ^ (FloatKind.f64.format.exponentBits + FloatKind.f64.format.fractionBits) = 2 ^ 63 := by decide +kernel
    rw [e]
    have hy : x < 2 ^ 63 := by omega
    have ho : 2 ^ 63 + x = 2 ^ 63 ||| x := by
      have := Nat.two_pow_add_eq_or_of_lt hy 1
      simpa using this
    rw [show x + 9223372036854775808 = 2 ^ 63 + x by omega, ho]
    apply Nat.eq_of_testBit_eq
    intro i
    rw [Nat.testBit_xor, Nat.testBit_or, Nat.testBit_two_pow]
    by_cases hi : 63 = i
    · subst hi
      have : x.testBit 63 = false := Nat.testBit_lt_two_pow hy
      simp [this]
    · simp [hi]
  · rw [negFloat_eq (by omega) h]; unfold absB; omega
def MX : Nat := 9218868437227405311
theorem nn_MX : nan MX = false := by decide +kernel
theorem flt_MX (x : Nat) : flt MX x = true ↔ x / 9223372036854775808 % 2 = 0 ∧ x % 9223372036854775808 = 9218868437227405312 := by
  cases hn : nan x with
  | true =>
    have := (nan_iff x).1 hn
    rw [flt_nanr hn]
    constructor
    · intro h; cases h
    · intro h; omega
  | false =>
    have := (nan_false_iff x).1 hn
    unfold flt
    rw [hn, nn_MX]
    unfold key
    have hm : MX = 9218868437227405311 := rfl
    rw [hm, if_neg (by omega)]
    simp only [Bool.not_false, Bool.true_and, decide_eq_true_eq]
    split <;> omega

theorem isinf_neg (x : Nat) (hx : x < 18446744073709551616) (w : World) : Calls Tryz.prog 277 #[.float .f64 x, .int .i64 (-1)] w fun e w' => e = .returned (.bool (x == 18442240474082181120)) ∧ w = w' := by
  have hf : (flt 9218868437227405311 (negB x)) = (x == 18442240474082181120) := by
    rw [Bool.eq_iff_iff, beq_iff_eq]
    have := flt_MX (negB x)
    unfold MX at this
    rw [this]; unfold negB; split <;> omega
  have hn := negFloat_all hx
  have Hf := Lib.hid hf; clear hf
  go_enter Tryz.func277, Tryz.ntmps277
  go_wp2
  go_ret
  exact ⟨by rw [← Hf.out]; rfl, rfl⟩
theorem isinf_pos (x : Nat) (hx : x < 18446744073709551616) (w : World) : Calls Tryz.prog 277 #[.float .f64 x, .int .i64 1] w fun e w' => e = .returned (.bool (x == 9218868437227405312)) ∧ w = w' := by
  have hf : (flt 9218868437227405311 x) = (x == 9218868437227405312) := by
    rw [Bool.eq_iff_iff, beq_iff_eq]
    have := flt_MX x
    unfold MX at this
    rw [this]; omega
  have Hf := Lib.hid hf; clear hf
  go_enter Tryz.func277, Tryz.ntmps277
  go_wp2
  go_ret
  exact ⟨by rw [← Hf.out]; rfl, rfl⟩
theorem isinf_zero (x : Nat) (hx : x < 18446744073709551616) (w : World) : Calls Tryz.prog 277 #[.float .f64 x, .int .i64 0] w fun e w' => e = .returned (.bool (absB x == 9218868437227405312)) ∧ w = w' := by
  have hf : (flt 9218868437227405311 (absB x)) = (absB x == 9218868437227405312) := by
    rw [Bool.eq_iff_iff, beq_iff_eq]
    have := flt_MX (absB x)
    unfold MX at this
    rw [this]; unfold absB; omega
  have Hf := Lib.hid hf; clear hf
  go_enter Tryz.func277, Tryz.ntmps277
  go_wp2_with (go_at_call 283; refine (abs_any x hx _).mono ?_; rintro e w' ⟨rfl, rfl⟩)
  go_ret
  exact ⟨by rw [← Hf.out]; rfl, rfl⟩

theorem signbit_any (x : Nat) (w : World) : Calls Tryz.prog 278 #[.float .f64 x] w fun e w' => ∃ b, e = .returned (.bool b) ∧ w = w' := by
  go_enter Tryz.func278, Tryz.ntmps278
  go_wp2
  go_ret
  exact ⟨_, rfl, rfl⟩

/-- what Kind tells: no number, out of bounds, or in bounds -/
theorem kind_nan (x : Nat) (hn : nan x = true) (w : World) : Calls Tryz.prog 267 #[.float .f64 x] w fun e w' => e = .returned (.int .i64 0) ∧ w = w' := by
  go_enter Tryz.func267, Tryz.ntmps267
  go_wp2_with (go_at_call 221; refine (isnan_is x true hn _).mono ?_; rintro e w' ⟨rfl, rfl⟩)
  go_ret
  exact ⟨rfl, rfl⟩
def KindNum (x : Nat) (w : World) (e : Ending) (w' : World) : Prop := ∃ k : Int, e = .returned (.int .i64 k) ∧ w = w' ∧ k ≠ 0 ∧ ((k = 1 ∨ k = 2 ∨ k = 6) ↔ (flt x 0 = true ∨ x = 9218868437227405312))
theorem kind_num (x : Nat) (hx : x < 18446744073709551616) (hn : nan x = false) (w : World) : Calls Tryz.prog 267 #[.float .f64 x] w fun e w' => KindNum x w e w' := by
  by_cases h1 : x = 18442240474082181120
  · subst h1
    have hb : ((18442240474082181120 : Nat) == 18442240474082181120) = true := rfl
    have hi := isinf_neg 18442240474082181120 hx
    rw [hb] at hi
    have Hi := Lib.hid hi; clear hi hb
    go_enter Tryz.func267, Tryz.ntmps267
    go_wp2_with fail
    refine (isnan_is _ false hn _).mono ?_; rintro e w' ⟨rfl, rfl⟩
    go_wp2_with fail
    refine (Hi.out _).mono ?_; rintro e w' ⟨rfl, rfl⟩
    go_wp2_with fail
    go_ret
    refine ⟨1, rfl, rfl, by decide, ?_⟩
    have : flt 18442240474082181120 0 = true := by decide +kernel
    simp [this]
  · have hi := isinf_neg x hx
    rw [show (x == 18442240474082181120) = false from beq_eq_false_iff_ne.2 h1] at hi
    have Hi := Lib.hid hi; clear hi
    by_cases h2 : x = 9218868437227405312
    · subst h2
      have hj := isinf_pos 9218868437227405312 hx
      rw [show ((9218868437227405312 : Nat) == 9218868437227405312) = true from rfl] at hj
      have Hj := Lib.hid hj; clear hj h1
      go_enter Tryz.func267, Tryz.ntmps267
      go_wp2_with fail
      refine (isnan_is _ false hn _).mono ?_; rintro e w' ⟨rfl, rfl⟩
      go_wp2_with fail
      refine (Hi.out _).mono ?_; rintro e w' ⟨rfl, rfl⟩
      go_wp2_with fail
      refine (Hj.out _).mono ?_; rintro e w' ⟨rfl, rfl⟩
      go_wp2_with fail
      go_ret
      exact ⟨6, rfl, rfl, by decide, by simp⟩
    · have hj := isinf_pos x hx
      rw [show (x == 9218868437227405312) = false from beq_eq_false_iff_ne.2 h2] at hj
      have Hj := Lib.hid hj; have H2 := Lib.hid h2; clear hj h1 h2
      cases hl : flt x 0 with
      | true =>
        go_enter Tryz.func267, Tryz.ntmps267
        go_wp2_with fail
        refine (isnan_is _ false hn _).mono ?_; rintro e w' ⟨rfl, rfl⟩
        go_wp2_with fail
        refine (Hi.out _).mono ?_; rintro e w' ⟨rfl, rfl⟩
        go_wp2_with fail
        refine (Hj.out _).mono ?_; rintro e w' ⟨rfl, rfl⟩
        go_wp2_with fail
        go_ret
        exact ⟨2, rfl, rfl, by decide, by simp [hl]⟩
      | false =>
        cases hg : flt 0 x with
        | true =>
          go_enter Tryz.func267, Tryz.ntmps267
          go_wp2_with fail
          refine (isnan_is _ false hn _).mono ?_; rintro e w' ⟨rfl, rfl⟩
          go_wp2_with fail
          refine (Hi.out _).mono ?_; rintro e w' ⟨rfl, rfl⟩
          go_wp2_with fail
          refine (Hj.out _).mono ?_; rintro e w' ⟨rfl, rfl⟩
          go_wp2_with fail
          go_ret
          exact ⟨5, rfl, rfl, by decide, by have h2 : ¬ x = 9218868437227405312 := H2.out; simp [h2, hl]⟩
        | false =>
          go_enter Tryz.func267, Tryz.ntmps267
          go_wp2_with fail
          refine (isnan_is _ false hn _).mono ?_; rintro e w' ⟨rfl, rfl⟩
          go_wp2_with fail
          refine (Hi.out _).mono ?_; rintro e w' ⟨rfl, rfl⟩
          go_wp2_with fail
          refine (Hj.out _).mono ?_; rintro e w' ⟨rfl, rfl⟩
          go_wp2_with fail
          refine (signbit_any _ _).mono ?_; rintro e w' ⟨b, rfl, rfl⟩
          have h2 : ¬ x = 9218868437227405312 := H2.out
          have hk4 : KindNum x w (.returned (.int .i64 4)) w := ⟨4, rfl, rfl, by decide, by simp [h2, hl]⟩
          have hk3 : KindNum x w (.returned (.int .i64 3)) w := ⟨3, rfl, rfl, by decide, by simp [h2, hl]⟩
          clear h2
          have K4 := Lib.hid hk4; have K3 := Lib.hid hk3; clear hk4 hk3
          cases b with
          | true => go_wp2_with fail; go_ret; exact K3.out
          | false => go_wp2_with fail; go_ret; exact K4.out

theorem norm_normal (x : Nat) (h1 : 4503599627370496 ≤ x) (h2 : x < 9218868437227405312) (w : World) :
    Calls Tryz.prog 284 #[.float .f64 x] w fun e w' => e = .returned (.tuple #[.float .f64 x, .int .i64 0]) ∧ w = w' := by
  have ha : absB x = x := by unfold absB; omega
  have hl : flt x 4503599627370496 = false := by rw [flt_pos (by omega) (by omega)]; exact decide_eq_false (by omega)
  have hc := abs_any x (by omega)
  rw [ha] at hc
  have Hc := Lib.hid hc; clear hc ha
  go_enter Tryz.func284, Tryz.ntmps284
  go_wp2_with fail
  refine (Hc.out _).mono ?_; rintro e w' ⟨rfl, rfl⟩
  go_wp2_with fail
  go_ret2
  exact ⟨rfl, rfl⟩
theorem norm_sub (x y : Nat) (h1 : x < 4503599627370496) (hy : floatBits .mul .f64 x c52 = some y) (w : World) :
    Calls Tryz.prog 284 #[.float .f64 x] w fun e w' => e = .returned (.tuple #[.float .f64 y, .int .i64 (-52)]) ∧ w.drewN 0 = w' := by
  have ha : absB x = x := by unfold absB; omega
  have hl : flt x 4503599627370496 = true := by rw [flt_pos (by omega) (by omega)]; exact decide_eq_true (by omega)
  have hc := abs_any x (by omega)
  rw [ha] at hc
  unfold c52 at hy
  have hb : ∀ w, fbits .mul x 4841369599423283200 w = y := fun w => by unfold fbits; rw [hy]; rfl
  have hk : fcount .mul x 4841369599423283200 = 0 := by unfold fcount; rw [hy]; rfl
  have Hc := Lib.hid hc; clear hc ha hy
  go_enter Tryz.func284, Tryz.ntmps284
  go_wp2_with fail
  refine (Hc.out _).mono ?_; rintro e w' ⟨rfl, rfl⟩
  go_wp2_with fail
  go_ret2
  exact ⟨rfl, rfl⟩

theorem and_2047 (E : Nat) (h : E < 2048) : bits .and .i64 (E : Int) 2047 = (E : Int) := by
  show IntKind.i64.wrap ((BitVec.ofInt 64 (E : Int) &&& BitVec.ofInt 64 (2047 : Int)).toNat : Int) = _
  have e1 : (BitVec.ofInt 64 (E : Int)).toNat = E := by
    rw [BitVec.ofInt_natCast, BitVec.toNat_ofNat]; exact Nat.mod_eq_of_lt (by omega)
  have e2 : (BitVec.ofInt 64 (2047 : Int)).toNat = 2 ^ 11 - 1 := by decide
  rw [BitVec.toNat_and, e1, e2, Nat.and_two_pow_sub_one_eq_mod, Nat.mod_eq_of_lt (by omega), IntKind.wrap_i64]
  omega
theorem andnot_exp (E F : Nat) (hE : E < 2048) (hF : F < 4503599627370496) : bits .andNot .u64 ((E * 4503599627370496 + F : Nat) : Int) 9218868437227405312 = (F : Int) := by
  have h := u64_andNot_nat (E * 4503599627370496 + F) 9218868437227405312 (by omega) (by omega)
  rw [show ((9218868437227405312 : Nat) : Int) = 9218868437227405312 from rfl] at h
  rw [h]
  have e2 : 18446744073709551615 - 9218868437227405312 = 2 ^ 63 ||| (2 ^ 52 - 1) := by decide
  rw [e2, Nat.and_or_distrib_left, Nat.and_two_pow_sub_one_eq_mod]
  have h63 : (E * 4503599627370496 + F) &&& 2 ^ 63 = 0 := by
    have hb : (E * 4503599627370496 + F).testBit 63 = false := Nat.testBit_lt_two_pow (by omega)
    apply Nat.eq_of_testBit_eq
    intro i
    rw [Nat.testBit_and, Nat.testBit_two_pow, Nat.zero_testBit]
    by_cases hi : 63 = i
    · subst hi; rw [hb]; rfl
    · simp [hi]
  rw [h63, Nat.zero_or]
  have e3 : (E * 4503599627370496 + F) % 2 ^ 52 = F := by omega
  rw [e3]
theorem or_exp (E F : Nat) (hE : E < 2048) (hF : F < 4503599627370496) : bits .or .u64 (F : Int) ((E : Int) * 4503599627370496) = ((E * 4503599627370496 + F : Nat) : Int) := by
  have e : (E : Int) * 4503599627370496 = ((E * 4503599627370496 : Nat) : Int) := by omega
  rw [e, u64_or_nat F (E * 4503599627370496) (by omega) (by omega)]
  have h := Nat.two_pow_add_eq_or_of_lt (i := 52) (b := F) (by omega) E
  rw [Nat.or_comm, show E * 4503599627370496 = 2 ^ 52 * E by omega, ← h]

set_option maxRecDepth 20000 in
set_option maxHeartbeats 1000000 in
theorem ldexp_normal (x : Nat) (h1 : 4503599627370496 ≤ x) (h2 : x ≤ one) (w : World) :
    Calls Tryz.prog 280 #[.float .f64 x, .int .i64 20] w fun e w' => e = .returned (.float .f64 (x + 20 * 4503599627370496)) ∧ ∃ n, w' = w.drewN n := by
  have ho : one = 4607182418800017408 := rfl
  rw [ho] at h2
  have hn : nan x = false := (nan_false_iff x).2 (by omega)
  have hz : feq x 0 = false := by
    cases h : feq x 0 with
    | false => rfl
    | true => rcases (feq_zero (by omega)).1 h with h | h <;> omega
  have hi := isinf_zero x (by omega)
  rw [show (absB x == 9218868437227405312) = false from beq_eq_false_iff_ne.2 (by unfold absB; omega)] at hi
  have Hi := Lib.hid hi; clear hi
  obtain ⟨E, F, hx, hF, hE1, hE2⟩ : ∃ E F : Nat, x = E * 4503599627370496 + F ∧ F < 4503599627370496 ∧ 1 ≤ E ∧ E ≤ 1023 := ⟨x / 4503599627370496, x % 4503599627370496, by omega, by omega, by omega, by omega⟩
  have ha : bits .and .i64 ((x : Int) / 4503599627370496) 2047 = (E : Int) := by
    have : (x : Int) / 4503599627370496 = (E : Int) := by omega
    rw [this]; exact and_2047 E (by omega)
  have hb : bits .andNot .u64 (x : Int) 9218868437227405312 = (F : Int) := by rw [hx]; exact andnot_exp E F (by omega) hF
  have hor : bits .or .u64 (F : Int) ((20 + ((E : Int) - 1023) + 1023) * 4503599627370496) = ((x + 20 * 4503599627370496 : Nat) : Int) := by
    have e : (20 + ((E : Int) - 1023) + 1023) = ((E + 20 : Nat) : Int) := by omega
    have e2 : (E + 20) * 4503599627370496 + F = E * 4503599627370496 + F + 20 * 4503599627370496 := by omega
    rw [e, or_exp (E + 20) F (by omega) hF, hx, e2]
  have hm := mul1 (w := x + 20 * 4503599627370496) (by omega)
  rw [ho] at hm
  have hm1 : ∀ w, fbits .mul 4607182418800017408 (x + 20 * 4503599627370496) w = x + 20 * 4503599627370496 := fun w => by unfold fbits; rw [hm]; rfl
  have hm2 : fcount .mul 4607182418800017408 (x + 20 * 4503599627370496) = 0 := by unfold fcount; rw [hm]; rfl
  generalize x + 20 * 4503599627370496 = W at *
  clear hm hx ho
  go_enter Tryz.func280, Tryz.ntmps280
  go_wp2_with fail
  refine (Hi.out _).mono ?_; rintro e w' ⟨rfl, rfl⟩
  go_wp2_with fail
  refine (isnan_is _ false hn _).mono ?_; rintro e w' ⟨rfl, rfl⟩
  go_wp2_with fail
  refine (norm_normal x h1 (by omega) _).mono ?_; rintro e w' ⟨rfl, rfl⟩
  go_wp2_with fail
  go_ret
  exact ⟨rfl, 0, rfl⟩

end Go.Proofs.YtpchhfhmopmagaaGreat.Cl

/- Shares: Ldexp of a small one, and of any; Units, the program's and the document's. -/
namespace Go.Proofs.YtpchhfhmopmagaaGreat.Cl
open Go.RowKit Fl Wd St

theorem feq0_false {x : Nat} (h : 0 < x) (h2 : x < 9223372036854775808) : feq x 0 = false := by
  cases hh : feq x 0 with
  | false => rfl
  | true => rcases (feq_zero (by omega)).1 hh with h | h <;> omega
set_option maxRecDepth 20000 in
set_option maxHeartbeats 1000000 in
theorem ldexp_sub (x z : Nat) (h0 : 0 < x) (h2 : x < 4503599627370496) (hz : mag z = mag x * 2 ^ 20) (w : World) :
    Calls Tryz.prog 280 #[.float .f64 x, .int .i64 20] w fun e w' => e = .returned (.float .f64 z) ∧ ∃ n, w' = w.drewN n := by
  have hn : nan x = false := (nan_false_iff x).2 (by omega)
  have hf0 := feq0_false h0 (by omega)
  have hi := isinf_zero x (by omega)
  rw [show (absB x == 9218868437227405312) = false from beq_eq_false_iff_ne.2 (by unfold absB; omega)] at hi
  have Hi := Lib.hid hi; clear hi
  obtain ⟨y, hy, hy2, hym⟩ := mul52 (x := x) (by omega)
  have hy3 : 4503599627370496 ≤ y := by
    have h3 := mag_lt_iff y 4503599627370496
    have h4 : mag 4503599627370496 = 4503599627370496 := mag_small (by omega)
    omega
  have hy4 : y < 53 * 4503599627370496 := by
    have h3 := mag_lt_iff y (53 * 4503599627370496)
    have h4 : mag (53 * 4503599627370496) = 2 ^ 104 := by
      have := mag_pow 52
      rwa [show (52 + 1) * 2 ^ 52 = 53 * 4503599627370496 by decide] at this
    omega
  have hns := norm_sub x y h2 hy
  have Hns := Lib.hid hns; clear hns
  rw [mag_small (by omega : x < 2 ^ 53)] at hz
  obtain ⟨E, F, hx, hF, hE1, hE2⟩ : ∃ E F : Nat, y = E * 4503599627370496 + F ∧ F < 4503599627370496 ∧ 1 ≤ E ∧ E ≤ 52 := ⟨y / 4503599627370496, y % 4503599627370496, by omega, by omega, by omega, by omega⟩
  have ha : bits .and .i64 ((y : Int) / 4503599627370496) 2047 = (E : Int) := by
    have : (y : Int) / 4503599627370496 = (E : Int) := by omega
    rw [this]; exact and_2047 E (by omega)
  have hb : bits .andNot .u64 (y : Int) 9218868437227405312 = (F : Int) := by rw [hx]; exact andnot_exp E F (by omega) hF
  have hp1 : (0 : Int) ≤ (y : Int) := by omega
  by_cases hE : E < 33
  · have hor : bits .or .u64 (F : Int) ((-32 + ((E : Int) - 1023) + 53 + 1023) * 4503599627370496) = ((y + 21 * 4503599627370496 : Nat) : Int) := by
      have e : (-32 + ((E : Int) - 1023) + 53 + 1023) = ((E + 21 : Nat) : Int) := by omega
      have e2 : (E + 21) * 4503599627370496 + F = E * 4503599627370496 + F + 21 * 4503599627370496 := by omega
      rw [e, or_exp (E + 21) F (by omega) hF, hx, e2]
    have hW : mag (y + 21 * 4503599627370496) = x * 2 ^ 73 := by
      have := mag_shift (w := y) (k := 21) (by omega)
      rw [show 21 * 2 ^ 52 = 21 * 4503599627370496 by decide] at this
      rw [this, hym, Nat.mul_assoc, ← Nat.pow_add]
    obtain ⟨z', hz1, hz2, hz3⟩ := mulm53 (x := x) (w := y + 21 * 4503599627370496) (by omega) (by omega) hW
    have hzz : z' = z := mag_inj (by rw [hz3, hz])
    subst hzz
    unfold cm53 at hz1
    have hm1 : ∀ w, fbits .mul 4368491638549381120 (y + 21 * 4503599627370496) w = z' := fun w => by unfold fbits; rw [hz1]; rfl
    have hm2 : fcount .mul 4368491638549381120 (y + 21 * 4503599627370496) = 0 := by unfold fcount; rw [hz1]; rfl
    generalize y + 21 * 4503599627370496 = W at *
    clear hx hz1 hz2 hz3 hW hym hz hy
    go_enter Tryz.func280, Tryz.ntmps280
    go_wp2_with fail
    refine (Hi.out _).mono ?_; rintro e w' ⟨rfl, rfl⟩
    go_wp2_with fail
    refine (isnan_is _ false hn _).mono ?_; rintro e w' ⟨rfl, rfl⟩
    go_wp2_with fail
    refine (Hns.out _).mono ?_; rintro e w' ⟨rfl, rfl⟩
    go_wp2_with fail
    go_ret
    exact ⟨rfl, _, rfl⟩
  · have hor : bits .or .u64 (F : Int) ((-32 + ((E : Int) - 1023) + 1023) * 4503599627370496) = ((y - 32 * 4503599627370496 : Nat) : Int) := by
      have e : (-32 + ((E : Int) - 1023) + 1023) = ((E - 32 : Nat) : Int) := by omega
      have e2 : (E - 32) * 4503599627370496 + F = E * 4503599627370496 + F - 32 * 4503599627370496 := by omega
      rw [e, or_exp (E - 32) F (by omega) hF, hx, e2]
    have hW : mag (y - 32 * 4503599627370496) = x * 2 ^ 20 := by
      have := mag_shift (w := y - 32 * 4503599627370496) (k := 32) (by omega)
      rw [show 32 * 2 ^ 52 = 32 * 4503599627370496 by decide, Nat.sub_add_cancel (by omega), hym] at this
      have e3 : x * 2 ^ 52 = x * 2 ^ 20 * 2 ^ 32 := by rw [Nat.mul_assoc]
      rw [e3] at this
      exact (Nat.eq_of_mul_eq_mul_right (by decide) this).symm
    have hz1 := mul1 (w := y - 32 * 4503599627370496) (by omega)
    have hzz : y - 32 * 4503599627370496 = z := mag_inj (by rw [hW, hz])
    rw [hzz] at hz1 hor
    unfold one at hz1
    have hm1 : ∀ w, fbits .mul 4607182418800017408 z w = z := fun w => by unfold fbits; rw [hz1]; rfl
    have hm2 : fcount .mul 4607182418800017408 z = 0 := by unfold fcount; rw [hz1]; rfl
    clear hx hz1 hW hym hz hy hzz
    go_enter Tryz.func280, Tryz.ntmps280
    go_wp2_with fail
    refine (Hi.out _).mono ?_; rintro e w' ⟨rfl, rfl⟩
    go_wp2_with fail
    refine (isnan_is _ false hn _).mono ?_; rintro e w' ⟨rfl, rfl⟩
    go_wp2_with fail
    refine (Hns.out _).mono ?_; rintro e w' ⟨rfl, rfl⟩
    go_wp2_with fail
    go_ret
    exact ⟨rfl, _, rfl⟩

theorem ldexp_zero (x : Nat) (hx : feq x 0 = true) (w : World) : Calls Tryz.prog 280 #[.float .f64 x, .int .i64 20] w fun e w' => e = .returned (.float .f64 x) ∧ ∃ n, w' = w.drewN n := by
  go_enter Tryz.func280, Tryz.ntmps280
  go_wp2_with fail
  go_ret
  exact ⟨rfl, 0, rfl⟩

/-- what Ldexp(x, 20) gives -/
def up20 (x z : Nat) : Prop := (x = 9223372036854775808 ∧ z = x) ∨ (x ≤ one ∧ z < 9218868437227405312 ∧ mag z = mag x * 2 ^ 20)
theorem ldexp_any (x z : Nat) (h : up20 x z) (w : World) : Calls Tryz.prog 280 #[.float .f64 x, .int .i64 20] w fun e w' => e = .returned (.float .f64 z) ∧ ∃ n, w' = w.drewN n := by
  rcases h with ⟨rfl, rfl⟩ | ⟨h1, h2, h3⟩
  · exact ldexp_zero _ (by decide +kernel) w
  · by_cases h0 : x = 0
    · subst h0
      have : z = 0 := mag_inj (by rw [h3, mag_zero])
      subst this
      exact ldexp_zero _ (by decide +kernel) w
    · by_cases hs : x < 4503599627370496
      · exact ldexp_sub x z (by omega) hs h3 w
      · have := mag_shift (w := x) (k := 20) (by omega)
        rw [show 20 * 2 ^ 52 = 20 * 4503599627370496 by decide] at this
        have hz : z = x + 20 * 4503599627370496 := mag_inj (by rw [this, h3])
        rw [hz]
        exact ldexp_normal x (by omega) h1 w
theorem Ldexp_any (x z : Nat) (h : up20 x z) (w : World) : Calls Tryz.prog 269 #[.float .f64 x, .int .i64 20] w fun e w' => e = .returned (.float .f64 z) ∧ ∃ n, w' = w.drewN n := by
  have hc := ldexp_any x z h
  have Hc := Lib.hid hc; clear hc
  go_enter Tryz.func269, Tryz.ntmps269
  go_wp2_with fail
  refine (Hc.out _).mono ?_; rintro e w' ⟨rfl, n, rfl⟩
  go_wp2_with fail
  go_ret
  exact ⟨rfl, n, rfl⟩

theorem to_integral (name : String) (way : Ieee.Toward) : ∃ f : Nat → Bool → Nat → Sem Value, ∀ y, Extern.MathFloor.toIntegral name way #[.float .f64 y] =
    (match FloatKind.f64.decode y with | .nan s t => f y s t | d => pure (.float .f64 (FloatKind.f64.encode (d.integral way)))) := ⟨_, fun _ => rfl⟩
theorem run_integral {P : Program} (name : String) (way : Ieee.Toward) (y : Nat) (s : Bool) (m : Nat) (p : Int) (h : FloatKind.f64.decode y = .number s m p) (w : World) :
    (Extern.MathFloor.toIntegral name way #[.float .f64 y]).run P w = .ok (.float .f64 (FloatKind.f64.encode ((Ieee.Datum.number s m p).integral way))) w := by
  obtain ⟨f, hf⟩ := to_integral name way
  rw [hf, h]; rfl
theorem run_round (y : Nat) (hy : y < 9218868437227405312) (N : Nat) (hN : rhe (mag y) = N) (w : World) :
    (callFunc 268 #[.float .f64 y]).run Tryz.prog w = .ok (.value (.float .f64 (floatOfInt .f64 (N : Int)))) w := by
  rw [run_callFunc_extern Tryz.func268 (by kernel_rfl) (by kernel_rfl) (by kernel_rfl) (e := Extern.MathFloor.toIntegral "math.RoundToEven" .even) (by kernel_rfl)]
  have h := round_even hy hN
  obtain ⟨m, k, e, hm⟩ := read_pos hy
  have e' : FloatKind.f64.decode y = .number false m (-1074 + k) := e
  rw [e'] at h
  rw [run_integral _ _ _ _ _ _ e', h]; rfl
theorem run_round_neg (w : World) : (callFunc 268 #[.float .f64 9223372036854775808]).run Tryz.prog w = .ok (.value (.float .f64 9223372036854775808)) w := by
  rw [run_callFunc_extern Tryz.func268 (by kernel_rfl) (by kernel_rfl) (by kernel_rfl) (e := Extern.MathFloor.toIntegral "math.RoundToEven" .even) (by kernel_rfl)]
  have e' : FloatKind.f64.decode 9223372036854775808 = .number true 0 (-1074) := by decide +kernel
  have e2 : FloatKind.f64.encode ((Ieee.Datum.number true 0 (-1074)).integral .even) = 9223372036854775808 := by decide +kernel
  rw [run_integral _ _ _ _ _ _ e', e2]; rfl

/-- Units: what both come to -/
def RetU (u : Nat × Int) (w : World) (e : Ending) (w' : World) : Prop := e = .returned (.tuple #[.int .i64 (u.1 : Int), .int .i64 u.2]) ∧ ∃ n, w' = w.drewN n

theorem rhe_zero : rhe 0 = 0 := by
  unfold rhe
  have := U_pos
  rw [Nat.zero_div, Nat.zero_mod, if_neg (by omega)]
set_option maxRecDepth 20000 in
set_option maxHeartbeats 1000000 in
theorem units_any (x : Nat) (hx : x < 18446744073709551616) (w : World) : Calls Tryz.prog 244 #[.float .f64 x] w fun e w' => RetU (unitsS x) w e w' := by
  cases hn : nan x with
  | true =>
    have hu : unitsS x = (0, 21) := by unfold unitsS; rw [if_pos hn]
    rw [hu]; clear hu
    go_enter Tryz.func244, Tryz.ntmps244
    go_wp2_with fail
    refine (kind_nan x hn _).mono ?_; rintro e w' ⟨rfl, rfl⟩
    go_wp2_with fail
    go_ret2
    exact ⟨rfl, 0, rfl⟩
  | false =>
    by_cases hk : flt x 0 = true ∨ x = 9218868437227405312
    · have hu : unitsS x = (0, 2) := by
        unfold unitsS
        rw [if_neg (by rw [hn]; decide)]
        rcases hk with h | h
        · rw [if_pos (by rw [h]; rfl)]
        · subst h; rw [if_pos (by decide +kernel)]
      rw [hu]
      have Hk := Lib.hid hk; clear hu hk
      go_enter Tryz.func244, Tryz.ntmps244
      go_wp2_with fail
      refine (kind_num x hx hn _).mono ?_; rintro e w' ⟨k, rfl, rfl, hk0, hkk⟩
      rcases hkk.2 Hk.out with rfl | rfl | rfl <;> clear hkk hk0
      all_goals
        go_wp2_with fail
        go_ret2
        exact ⟨rfl, 0, rfl⟩
    · have hkn : flt x 0 = false := by
        cases h : flt x 0 with
        | false => rfl
        | true => exact absurd (.inl h) hk
      cases hg : flt one x with
      | true =>
        have hu : unitsS x = (0, 2) := by unfold unitsS; rw [if_neg (by rw [hn]; decide), hkn, hg]; rfl
        rw [hu]; clear hu
        unfold one at hg
        have Hk := Lib.hid hk; clear hk
        go_enter Tryz.func244, Tryz.ntmps244
        go_wp2_with fail
        refine (kind_num x hx hn _).mono ?_; rintro e w' ⟨k, rfl, rfl, hk0, hkk⟩
        have hk1 : k ≠ 1 ∧ k ≠ 2 ∧ k ≠ 6 := ⟨fun h => Hk.out (hkk.1 (.inl h)), fun h => Hk.out (hkk.1 (.inr (.inl h))), fun h => Hk.out (hkk.1 (.inr (.inr h)))⟩
        obtain ⟨hk1, hk2, hk3⟩ := hk1
        clear hkk
        go_wp2_with fail
        go_ret2
        exact ⟨rfl, 0, rfl⟩
      | false =>
        have hu : unitsS x = (rhe (mag (x % 9223372036854775808) * 2 ^ 20), 0) := by unfold unitsS; rw [if_neg (by rw [hn]; decide), hkn, hg]; rfl
        rw [hu]; clear hu
        have hib := in_bounds hx hn hkn hg
        unfold one at hg
        have Hk := Lib.hid hk; clear hk
        rcases hib with hb | rfl
        · obtain ⟨z, hz, hz2, hzm⟩ := mul20 hb
          have hmod : x % 9223372036854775808 = x := by have : one = 4607182418800017408 := rfl; omega
          rw [hmod, ← hzm]
          have hle : rhe (mag z) ≤ 2 ^ 20 := by rw [hzm]; exact rhe_le (small_mag hb)
          have hrr := fun w => run_round z hz2 _ rfl w
          have hld := Ldexp_any x z (.inr ⟨hb, hz2, hzm⟩)
          generalize rhe (mag z) = N at *
          have hci := fun w => run_convert_float_int (P := Tryz.prog) w 82 3 .f64 .i64 (floatOfInt .f64 (N : Int)) (N : Int) (by kernel_rfl) Tryz.underlying3 (int_of (by omega))
          have Hld := Lib.hid hld
          clear hld hz hz2 hzm hmod hb
          go_enter Tryz.func244, Tryz.ntmps244
          go_wp2_with fail
          refine (kind_num x hx hn _).mono ?_; rintro e w' ⟨k, rfl, rfl, hk0, hkk⟩
          have hk1 : k ≠ 1 ∧ k ≠ 2 ∧ k ≠ 6 := ⟨fun h => Hk.out (hkk.1 (.inl h)), fun h => Hk.out (hkk.1 (.inr (.inl h))), fun h => Hk.out (hkk.1 (.inr (.inr h)))⟩
          obtain ⟨hk1, hk2, hk3⟩ := hk1
          clear hkk
          go_wp2_with fail
          refine (Hld.out _).mono ?_; rintro e w' ⟨rfl, n, rfl⟩
          go_wp2_with fail
          go_ret2
          exact ⟨rfl, n, rfl⟩
        · rw [show 9223372036854775808 % 9223372036854775808 = 0 from rfl, mag_zero, Nat.zero_mul, rhe_zero]
          have hrr := run_round_neg
          have hld := Ldexp_any 9223372036854775808 9223372036854775808 (.inl ⟨rfl, rfl⟩)
          have hci := fun w => run_convert_float_int (P := Tryz.prog) w 82 3 .f64 .i64 9223372036854775808 0 (by kernel_rfl) Tryz.underlying3 (by decide +kernel)
          have Hld := Lib.hid hld
          clear hld
          go_enter Tryz.func244, Tryz.ntmps244
          go_wp2_with fail
          refine (kind_num _ hx hn _).mono ?_; rintro e w' ⟨k, rfl, rfl, hk0, hkk⟩
          have hk1 : k ≠ 1 ∧ k ≠ 2 ∧ k ≠ 6 := ⟨fun h => Hk.out (hkk.1 (.inl h)), fun h => Hk.out (hkk.1 (.inr (.inl h))), fun h => Hk.out (hkk.1 (.inr (.inr h)))⟩
          obtain ⟨hk1, hk2, hk3⟩ := hk1
          clear hkk
          go_wp2_with fail
          refine (Hld.out _).mono ?_; rintro e w' ⟨rfl, n, rfl⟩
          go_wp2_with fail
          go_ret2
          exact ⟨rfl, n, rfl⟩

end Go.Proofs.YtpchhfhmopmagaaGreat.Cl

/- Classes: Units by halving; Right, the program's and the document's. -/
namespace Go.Proofs.YtpchhfhmopmagaaGreat.Cl
open Go.RowKit Fl Wd St

/-- a class -/
structure Cls where
  id : Int
  parent : Int
  share : Nat
  prio : Int
  quantum : Int
  limit : Int
  weight : Int
  minIdle : Int
  maxIdle : Int
  bounded : Bool
  isolated : Bool
def Cls.cells (c : Cls) : List Value := [.int .i64 c.id, .int .i64 c.parent, .float .f64 c.share, .int .i64 c.prio, .int .i64 c.quantum, .int .i64 c.limit, .int .i64 c.weight, .int .i64 c.minIdle, .int .i64 c.maxIdle, .bool c.bounded, .bool c.isolated]
abbrev Cls.agg (c : Cls) : Value := .agg #[.int .i64 c.id, .int .i64 c.parent, .float .f64 c.share, .int .i64 c.prio, .int .i64 c.quantum, .int .i64 c.limit, .int .i64 c.weight, .int .i64 c.minIdle, .int .i64 c.maxIdle, .bool c.bounded, .bool c.isolated]
/-- the error of a share -/
def fairS (b : Nat) : Int := if (unitsS b).2 = 21 then 21 else if (unitsS b).2 ≠ 0 ∨ (unitsS b).1 = 0 then 13 else 0
/-- whether a class may be, or why not -/
def rightS (c : Cls) : Int :=
  if c.id < 1 ∨ 65535 < c.id ∨ c.parent < 0 ∨ 65535 < c.parent then 2
  else if c.parent = c.id then 11
  else if fairS c.share ≠ 0 then fairS c.share
  else if c.prio < 0 ∨ 7 < c.prio then 14
  else if c.quantum < 1 ∨ 65536 < c.quantum ∨ c.limit < 1 ∨ 1024 < c.limit then 16
  else if c.weight < 0 ∨ 16 < c.weight ∨ c.minIdle < -1099511627776 ∨ 0 < c.minIdle ∨ c.maxIdle < 0 ∨ 1099511627776 < c.maxIdle then 2
  else 0

theorem units_err (b : Nat) : (unitsS b).2 = 21 ∨ (unitsS b).2 = 2 ∨ (unitsS b).2 = 0 := by
  unfold unitsS
  split
  · exact .inl rfl
  · split
    · exact .inr (.inl rfl)
    · exact .inr (.inr rfl)
set_option maxRecDepth 20000 in
set_option maxHeartbeats 400000 in
theorem fair_any (x : Nat) (hx : x < 18446744073709551616) (w : World) : Calls Tryz.prog 230 #[.float .f64 x] w fun e w' => e = .returned (.int .i64 (fairS x)) ∧ ∃ n, w' = w.drewN n := by
  have hu := units_any x hx
  have he := units_err x
  have hf : fairS x = if (unitsS x).2 = 21 then 21 else if (unitsS x).2 ≠ 0 ∨ (unitsS x).1 = 0 then 13 else 0 := rfl
  rw [hf]; clear hf
  generalize unitsS x = u at *
  obtain ⟨a, b⟩ := u
  simp only at he
  have Hu := Lib.hid hu; clear hu
  rcases he with rfl | rfl | rfl
  · go_enter Tryz.func230, Tryz.ntmps230
    go_wp2_with fail
    refine (Hu.out _).mono ?_; rintro e w' ⟨rfl, n, rfl⟩
    go_wp2_with fail
    go_ret
    exact ⟨rfl, _, rfl⟩
  · go_enter Tryz.func230, Tryz.ntmps230
    go_wp2_with fail
    refine (Hu.out _).mono ?_; rintro e w' ⟨rfl, n, rfl⟩
    go_wp2_with fail
    go_ret
    exact ⟨rfl, _, rfl⟩
  · by_cases h0 : a = 0
    · subst h0
      go_enter Tryz.func230, Tryz.ntmps230
      go_wp2_with fail
      refine (Hu.out _).mono ?_; rintro e w' ⟨rfl, n, rfl⟩
      go_wp2_with fail
      go_ret
      exact ⟨rfl, _, rfl⟩
    · have h1 : ((a : Int) == 0) = false := by rw [beq_eq_false_iff_ne]; omega
      have H0 := Lib.hid h0; clear h0
      go_enter Tryz.func230, Tryz.ntmps230
      go_wp2_with fail
      refine (Hu.out _).mono ?_; rintro e w' ⟨rfl, n, rfl⟩
      go_wp2_with fail
      go_ret
      refine ⟨?_, _, rfl⟩
      have h2 : ¬ a = 0 := H0.out
      simp

theorem right_2 {c : Cls} (h : c.id < 1 ∨ 65535 < c.id ∨ c.parent < 0 ∨ 65535 < c.parent) : rightS c = 2 := by unfold rightS; rw [if_pos h]
theorem right_11 {c : Cls} (h : ¬ (c.id < 1 ∨ 65535 < c.id ∨ c.parent < 0 ∨ 65535 < c.parent)) (h2 : c.parent = c.id) : rightS c = 11 := by unfold rightS; rw [if_neg h, if_pos h2]
theorem right_fair {c : Cls} (h : ¬ (c.id < 1 ∨ 65535 < c.id ∨ c.parent < 0 ∨ 65535 < c.parent)) (h2 : ¬ c.parent = c.id) (h3 : fairS c.share ≠ 0) : rightS c = fairS c.share := by
  unfold rightS; rw [if_neg h, if_neg h2, if_pos h3]
theorem right_rest {c : Cls} (h : ¬ (c.id < 1 ∨ 65535 < c.id ∨ c.parent < 0 ∨ 65535 < c.parent)) (h2 : ¬ c.parent = c.id) (h3 : fairS c.share = 0) : rightS c =
    if c.prio < 0 ∨ 7 < c.prio then 14
    else if c.quantum < 1 ∨ 65536 < c.quantum ∨ c.limit < 1 ∨ 1024 < c.limit then 16
    else if c.weight < 0 ∨ 16 < c.weight ∨ c.minIdle < -1099511627776 ∨ 0 < c.minIdle ∨ c.maxIdle < 0 ∨ 1099511627776 < c.maxIdle then 2
    else 0 := by unfold rightS; rw [if_neg h, if_neg h2, if_neg (by rw [h3]; simp)]

def Ret1 (v : Value) (w : World) (e : Ending) (w' : World) : Prop := e = .returned v ∧ Below w.heap.size w w'
theorem between_is {n lo hi : Int} {b : Bool} (h : (decide (lo ≤ n) && decide (n ≤ hi)) = b) (w : World) : Calls Tryz.prog 231 #[.int .i64 n, .int .i64 lo, .int .i64 hi] w fun e w' => e = .returned (.bool b) ∧ w = w' := h ▸ between_any n lo hi w
theorem bt_t {n lo hi : Int} (h : lo ≤ n ∧ n ≤ hi) : (decide (lo ≤ n) && decide (n ≤ hi)) = true := by simp [h.1, h.2]
theorem bt_f {n lo hi : Int} (h : ¬ (lo ≤ n ∧ n ≤ hi)) : (decide (lo ≤ n) && decide (n ≤ hi)) = false := by
  by_cases h1 : lo ≤ n
  · have : ¬ n ≤ hi := fun h2 => h ⟨h1, h2⟩
    simp [this]
  · simp [h1]

set_option maxRecDepth 20000 in
set_option maxHeartbeats 2000000 in
theorem right_any (c : Cls) (hs : c.share < 18446744073709551616) (w : World) : Calls Tryz.prog 185 #[c.agg] w (Ret1 (.int .i64 (rightS c)) w) := by
  have hfair := fair_any c.share hs
  have r2 := @right_2 c; have r11 := @right_11 c; have rf := @right_fair c; have rr := @right_rest c
  obtain ⟨id, parent, share, prio, quantum, limit, weight, minIdle, maxIdle, bounded, isolated⟩ := c
  unfold Cls.agg
  simp only at *
  generalize rightS _ = R at *
  generalize fairS share = fs at *
  have Hfair := Lib.hid hfair; have R2 := Lib.hid r2; have R11 := Lib.hid r11; have Rf := Lib.hid rf; have Rr := Lib.hid rr
  clear hfair r2 r11 rf rr
  by_cases h0 : 1 ≤ id ∧ id ≤ 65535
  · have b0 := Lib.hid (bt_t h0)
    by_cases h1 : 0 ≤ parent ∧ parent ≤ 65535
    · have b1 := Lib.hid (bt_t h1)
      by_cases hpi : parent = id
      · have hr := R11.out (by omega) hpi
        subst hpi; subst hr
        clear h0 h1
        go_enter Tryz.func185, Tryz.ntmps185
        go_wp2_with fail
        refine (Hfair.out _).mono ?_; rintro e w' ⟨rfl, n, rfl⟩
        go_wp2_with fail
        refine (between_is b0.out _).mono ?_; rintro e w' ⟨rfl, rfl⟩
        go_wp2_with fail
        refine (between_is b1.out _).mono ?_; rintro e w' ⟨rfl, rfl⟩
        go_wp2_with fail
        go_ret
        exact ⟨rfl, below_drewN ((Below.refl _ w).alloc (Nat.le_refl _) _) _⟩
      · have hpb : (parent == id) = false := beq_eq_false_iff_ne.2 hpi
        by_cases hfs : fs = 0
        · subst hfs
          by_cases h2 : 0 ≤ prio ∧ prio ≤ 7
          · have b2 := Lib.hid (bt_t h2)
            by_cases h3 : 1 ≤ quantum ∧ quantum ≤ 65536
            · have b3 := Lib.hid (bt_t h3)
              by_cases h4 : 1 ≤ limit ∧ limit ≤ 1024
              · have b4 := Lib.hid (bt_t h4)
                by_cases h5 : 0 ≤ weight ∧ weight ≤ 16
                · have b5 := Lib.hid (bt_t h5)
                  by_cases h6 : -1099511627776 ≤ minIdle ∧ minIdle ≤ 0
                  · have b6 := Lib.hid (bt_t h6)
                    by_cases h7 : 0 ≤ maxIdle ∧ maxIdle ≤ 1099511627776
                    · have b7 := Lib.hid (bt_t h7)
                      have hr := Rr.out (by omega) hpi rfl
                      rw [if_neg (by omega), if_neg (by omega), if_neg (by omega)] at hr
                      subst hr
                      clear h0 h1 h2 h3 h4 h5 h6 h7
                      go_enter Tryz.func185, Tryz.ntmps185
                      go_wp2_with fail
                      refine (Hfair.out _).mono ?_; rintro e w' ⟨rfl, n, rfl⟩
                      go_wp2_with fail
                      refine (between_is b0.out _).mono ?_; rintro e w' ⟨rfl, rfl⟩
                      go_wp2_with fail
                      refine (between_is b1.out _).mono ?_; rintro e w' ⟨rfl, rfl⟩
                      go_wp2_with fail
                      refine (between_is b2.out _).mono ?_; rintro e w' ⟨rfl, rfl⟩
                      go_wp2_with fail
                      refine (between_is b3.out _).mono ?_; rintro e w' ⟨rfl, rfl⟩
                      go_wp2_with fail
                      refine (between_is b4.out _).mono ?_; rintro e w' ⟨rfl, rfl⟩
                      go_wp2_with fail
                      refine (between_is b5.out _).mono ?_; rintro e w' ⟨rfl, rfl⟩
                      go_wp2_with fail
                      refine (between_is b6.out _).mono ?_; rintro e w' ⟨rfl, rfl⟩
                      go_wp2_with fail
                      refine (between_is b7.out _).mono ?_; rintro e w' ⟨rfl, rfl⟩
                      go_wp2_with fail
                      go_ret
                      exact ⟨rfl, below_drewN ((Below.refl _ w).alloc (Nat.le_refl _) _) _⟩
                    · have b7 := Lib.hid (bt_f h7)
                      have hr := Rr.out (by omega) hpi rfl
                      rw [if_neg (by omega), if_neg (by omega), if_pos (by omega)] at hr
                      subst hr
                      clear h0 h1 h2 h3 h4 h5 h6 h7
                      go_enter Tryz.func185, Tryz.ntmps185
                      go_wp2_with fail
                      refine (Hfair.out _).mono ?_; rintro e w' ⟨rfl, n, rfl⟩
                      go_wp2_with fail
                      refine (between_is b0.out _).mono ?_; rintro e w' ⟨rfl, rfl⟩
                      go_wp2_with fail
                      refine (between_is b1.out _).mono ?_; rintro e w' ⟨rfl, rfl⟩
                      go_wp2_with fail
                      refine (between_is b2.out _).mono ?_; rintro e w' ⟨rfl, rfl⟩
                      go_wp2_with fail
                      refine (between_is b3.out _).mono ?_; rintro e w' ⟨rfl, rfl⟩
                      go_wp2_with fail
                      refine (between_is b4.out _).mono ?_; rintro e w' ⟨rfl, rfl⟩
                      go_wp2_with fail
                      refine (between_is b5.out _).mono ?_; rintro e w' ⟨rfl, rfl⟩
                      go_wp2_with fail
                      refine (between_is b6.out _).mono ?_; rintro e w' ⟨rfl, rfl⟩
                      go_wp2_with fail
                      refine (between_is b7.out _).mono ?_; rintro e w' ⟨rfl, rfl⟩
                      go_wp2_with fail
                      go_ret
                      exact ⟨rfl, below_drewN ((Below.refl _ w).alloc (Nat.le_refl _) _) _⟩
                  · have b6 := Lib.hid (bt_f h6)
                    have hr := Rr.out (by omega) hpi rfl
                    rw [if_neg (by omega), if_neg (by omega), if_pos (by omega)] at hr
                    subst hr
                    clear h0 h1 h2 h3 h4 h5 h6
                    go_enter Tryz.func185, Tryz.ntmps185
                    go_wp2_with fail
                    refine (Hfair.out _).mono ?_; rintro e w' ⟨rfl, n, rfl⟩
                    go_wp2_with fail
                    refine (between_is b0.out _).mono ?_; rintro e w' ⟨rfl, rfl⟩
                    go_wp2_with fail
                    refine (between_is b1.out _).mono ?_; rintro e w' ⟨rfl, rfl⟩
                    go_wp2_with fail
                    refine (between_is b2.out _).mono ?_; rintro e w' ⟨rfl, rfl⟩
                    go_wp2_with fail
                    refine (between_is b3.out _).mono ?_; rintro e w' ⟨rfl, rfl⟩
                    go_wp2_with fail
                    refine (between_is b4.out _).mono ?_; rintro e w' ⟨rfl, rfl⟩
                    go_wp2_with fail
                    refine (between_is b5.out _).mono ?_; rintro e w' ⟨rfl, rfl⟩
                    go_wp2_with fail
                    refine (between_is b6.out _).mono ?_; rintro e w' ⟨rfl, rfl⟩
                    go_wp2_with fail
                    go_ret
                    exact ⟨rfl, below_drewN ((Below.refl _ w).alloc (Nat.le_refl _) _) _⟩
                · have b5 := Lib.hid (bt_f h5)
                  have hr := Rr.out (by omega) hpi rfl
                  rw [if_neg (by omega), if_neg (by omega), if_pos (by omega)] at hr
                  subst hr
                  clear h0 h1 h2 h3 h4 h5
                  go_enter Tryz.func185, Tryz.ntmps185
                  go_wp2_with fail
                  refine (Hfair.out _).mono ?_; rintro e w' ⟨rfl, n, rfl⟩
                  go_wp2_with fail
                  refine (between_is b0.out _).mono ?_; rintro e w' ⟨rfl, rfl⟩
                  go_wp2_with fail
                  refine (between_is b1.out _).mono ?_; rintro e w' ⟨rfl, rfl⟩
                  go_wp2_with fail
                  refine (between_is b2.out _).mono ?_; rintro e w' ⟨rfl, rfl⟩
                  go_wp2_with fail
                  refine (between_is b3.out _).mono ?_; rintro e w' ⟨rfl, rfl⟩
                  go_wp2_with fail
                  refine (between_is b4.out _).mono ?_; rintro e w' ⟨rfl, rfl⟩
                  go_wp2_with fail
                  refine (between_is b5.out _).mono ?_; rintro e w' ⟨rfl, rfl⟩
                  go_wp2_with fail
                  go_ret
                  exact ⟨rfl, below_drewN ((Below.refl _ w).alloc (Nat.le_refl _) _) _⟩
              · have b4 := Lib.hid (bt_f h4)
                have hr := Rr.out (by omega) hpi rfl
                rw [if_neg (by omega), if_pos (by omega)] at hr
                subst hr
                clear h0 h1 h2 h3 h4
                go_enter Tryz.func185, Tryz.ntmps185
                go_wp2_with fail
                refine (Hfair.out _).mono ?_; rintro e w' ⟨rfl, n, rfl⟩
                go_wp2_with fail
                refine (between_is b0.out _).mono ?_; rintro e w' ⟨rfl, rfl⟩
                go_wp2_with fail
                refine (between_is b1.out _).mono ?_; rintro e w' ⟨rfl, rfl⟩
                go_wp2_with fail
                refine (between_is b2.out _).mono ?_; rintro e w' ⟨rfl, rfl⟩
                go_wp2_with fail
                refine (between_is b3.out _).mono ?_; rintro e w' ⟨rfl, rfl⟩
                go_wp2_with fail
                refine (between_is b4.out _).mono ?_; rintro e w' ⟨rfl, rfl⟩
                go_wp2_with fail
                go_ret
                exact ⟨rfl, below_drewN ((Below.refl _ w).alloc (Nat.le_refl _) _) _⟩
            · have b3 := Lib.hid (bt_f h3)
              have hr := Rr.out (by omega) hpi rfl
              rw [if_neg (by omega), if_pos (by omega)] at hr
              subst hr
              clear h0 h1 h2 h3
              go_enter Tryz.func185, Tryz.ntmps185
              go_wp2_with fail
              refine (Hfair.out _).mono ?_; rintro e w' ⟨rfl, n, rfl⟩
              go_wp2_with fail
              refine (between_is b0.out _).mono ?_; rintro e w' ⟨rfl, rfl⟩
              go_wp2_with fail
              refine (between_is b1.out _).mono ?_; rintro e w' ⟨rfl, rfl⟩
              go_wp2_with fail
              refine (between_is b2.out _).mono ?_; rintro e w' ⟨rfl, rfl⟩
              go_wp2_with fail
              refine (between_is b3.out _).mono ?_; rintro e w' ⟨rfl, rfl⟩
              go_wp2_with fail
              go_ret
              exact ⟨rfl, below_drewN ((Below.refl _ w).alloc (Nat.le_refl _) _) _⟩
          · have b2 := Lib.hid (bt_f h2)
            have hr := Rr.out (by omega) hpi rfl
            rw [if_pos (by omega)] at hr
            subst hr
            clear h0 h1 h2
            go_enter Tryz.func185, Tryz.ntmps185
            go_wp2_with fail
            refine (Hfair.out _).mono ?_; rintro e w' ⟨rfl, n, rfl⟩
            go_wp2_with fail
            refine (between_is b0.out _).mono ?_; rintro e w' ⟨rfl, rfl⟩
            go_wp2_with fail
            refine (between_is b1.out _).mono ?_; rintro e w' ⟨rfl, rfl⟩
            go_wp2_with fail
            refine (between_is b2.out _).mono ?_; rintro e w' ⟨rfl, rfl⟩
            go_wp2_with fail
            go_ret
            exact ⟨rfl, below_drewN ((Below.refl _ w).alloc (Nat.le_refl _) _) _⟩
        · have hr := Rf.out (by omega) hpi hfs
          subst hr
          have hfb : (R != 0) = true := by rw [bne_iff_ne]; exact hfs
          clear h0 h1 hfs hpi
          go_enter Tryz.func185, Tryz.ntmps185
          go_wp2_with fail
          refine (Hfair.out _).mono ?_; rintro e w' ⟨rfl, n, rfl⟩
          go_wp2_with fail
          refine (between_is b0.out _).mono ?_; rintro e w' ⟨rfl, rfl⟩
          go_wp2_with fail
          refine (between_is b1.out _).mono ?_; rintro e w' ⟨rfl, rfl⟩
          go_wp2_with fail
          go_ret
          exact ⟨rfl, below_drewN ((Below.refl _ w).alloc (Nat.le_refl _) _) _⟩
    · have b1 := Lib.hid (bt_f h1)
      have hr := R2.out (by omega)
      subst hr
      clear h0 h1
      go_enter Tryz.func185, Tryz.ntmps185
      go_wp2_with fail
      refine (Hfair.out _).mono ?_; rintro e w' ⟨rfl, n, rfl⟩
      go_wp2_with fail
      refine (between_is b0.out _).mono ?_; rintro e w' ⟨rfl, rfl⟩
      go_wp2_with fail
      refine (between_is b1.out _).mono ?_; rintro e w' ⟨rfl, rfl⟩
      go_wp2_with fail
      go_ret
      exact ⟨rfl, below_drewN ((Below.refl _ w).alloc (Nat.le_refl _) _) _⟩
  · have b0 := Lib.hid (bt_f h0)
    have hr := R2.out (by omega)
    subst hr
    clear h0
    go_enter Tryz.func185, Tryz.ntmps185
    go_wp2_with fail
    refine (Hfair.out _).mono ?_; rintro e w' ⟨rfl, n, rfl⟩
    go_wp2_with fail
    refine (between_is b0.out _).mono ?_; rintro e w' ⟨rfl, rfl⟩
    go_wp2_with fail
    go_ret
    exact ⟨rfl, below_drewN ((Below.refl _ w).alloc (Nat.le_refl _) _) _⟩

end Go.Proofs.YtpchhfhmopmagaaGreat.Cl

/- Classes: the document's Right; Units; Same; Borrows. -/
namespace Go.Proofs.YtpchhfhmopmagaaGreat.Cl
open Go.RowKit Fl Wd St

theorem unitsc_any (c : Cls) (hs : c.share < 18446744073709551616) (w : World) : Calls Tryz.prog 200 #[c.agg] w (Ret1 (.int .i64 ((unitsS c.share).1 : Int)) w) := by
  have hu := units_any c.share hs
  obtain ⟨id, parent, share, prio, quantum, limit, weight, minIdle, maxIdle, bounded, isolated⟩ := c
  unfold Cls.agg
  simp only at *
  generalize unitsS share = u at *
  obtain ⟨a, b⟩ := u
  have Hu := Lib.hid hu; clear hu
  go_enter Tryz.func200, Tryz.ntmps200
  go_wp2_with fail
  refine (Hu.out _).mono ?_; rintro e w' ⟨rfl, n, rfl⟩
  go_wp2_with fail
  go_ret
  exact ⟨rfl, below_drewN ((Below.refl _ w).alloc (Nat.le_refl _) _) _⟩
theorem borrows_any (c : Cls) (w : World) : Calls Tryz.prog 220 #[c.agg] w (Ret1 (.bool (!c.bounded && !c.isolated)) w) := by
  obtain ⟨id, parent, share, prio, quantum, limit, weight, minIdle, maxIdle, bounded, isolated⟩ := c
  unfold Cls.agg
  cases bounded <;> cases isolated
  all_goals
    go_enter Tryz.func220, Tryz.ntmps220
    go_wp2_with fail
    go_ret
    exact ⟨rfl, (Below.refl _ w).alloc (Nat.le_refl _) _⟩

end Go.Proofs.YtpchhfhmopmagaaGreat.Cl

/- Classes: Same, the program's and the document's. -/
namespace Go.Proofs.YtpchhfhmopmagaaGreat.Cl
open Go.RowKit Fl Wd St
attribute [local go_sem] run_store_float

@[go_sem] theorem run_equalIn_f64 (d a b : Nat) (w : World) : (Op.equalIn (d + 1) 82 (.float .f64 a) (.float .f64 b)).run Tryz.prog w = .ok (feq a b) w := by
  simp [Op.equalIn, run_underlying Tryz.underlying82, Op.floatEq, order_eq64]
end Go.Proofs.YtpchhfhmopmagaaGreat.Cl

/- Classes: the document's Same; with a share's bits; the examples; the law ClassTells. -/
namespace Go.Proofs.YtpchhfhmopmagaaGreat.Cl
open Go.RowKit Fl Wd St Rel
attribute [local go_sem] run_store_float

end Go.Proofs.YtpchhfhmopmagaaGreat.Cl

/- Classes: with a share's bits; the document's examples. -/
namespace Go.Proofs.YtpchhfhmopmagaaGreat.Cl
open Go.RowKit Fl Wd St Rel
attribute [local go_sem] run_store_float

def Cls.with (c : Cls) (b : Nat) : Cls := { c with share := b }
def exC (b : Nat) : Cls := ⟨1, 0, b, 0, 1, 1, 0, 0, 0, false, false⟩
theorem ex3 : rightS (exC 9221120237041090560) = 21 := by decide +kernel

end Go.Proofs.YtpchhfhmopmagaaGreat.Cl
