/- Shares: Kind, Units (the program's and the document's), Same. -/
import Derived.Test.YtdoemgccmjddcaaUn2
namespace Go.Proofs.Ytdoemgccmjddcaa.Cl
open Go.RowKit Fl Wd St

theorem between_any (n lo hi : Int) (w : World) : Calls Try.prog 116 #[.int .i64 n, .int .i64 lo, .int .i64 hi] w fun e w' => e = .returned (.bool (decide (lo ≤ n) && decide (n ≤ hi))) ∧ w = w' := by
  by_cases h : lo ≤ n
  · go_enter Try.func116, Try.ntmps116
    go_wp2
    go_ret
    exact ⟨by simp [h], rfl⟩
  · go_enter Try.func116, Try.ntmps116
    go_wp2
    go_ret
    exact ⟨by rw [decide_eq_false (by omega : ¬ lo ≤ n)]; rfl, rfl⟩

def negB (x : Nat) : Nat := if x < 9223372036854775808 then x + 9223372036854775808 else x - 9223372036854775808
theorem negFloat_all {x : Nat} (h : x < 18446744073709551616) : Op.negFloat .f64 x = negB x := by
  unfold negB
  split
  · rename_i hx
    unfold Op.negFloat
    have e : 2 ^ (FloatKind.f64.format.exponentBits + FloatKind.f64.format.fractionBits) = 2 ^ 63 := by decide +kernel
    rw [e]
    have hy : x < 2 ^ 63 := by omega
    have ho : 2 ^ 63 + x = 2 ^ 63 ||| x := by
      have := Nat.two_pow_add_eq_or_of_lt hy 1
      simpa using this
    rw [show x + 9223372036854775808 = 2 ^ 63 + x by omega, ho]
    apply Nat.eq_of_testBit_eq
    intro i
    rw [Nat.testBit_xor, Nat.testBit_or, Nat.testBit_two_pow]
    by_cases hi : 63 = i
    · subst hi
      have : x.testBit 63 = false := Nat.testBit_lt_two_pow hy
      simp [this]
    · simp [hi]
  · rw [negFloat_eq (by omega) h]; unfold absB; omega
def MX : Nat := 9218868437227405311
theorem nn_MX : nan MX = false := by decide +kernel
theorem flt_MX (x : Nat) : flt MX x = true ↔ x / 9223372036854775808 % 2 = 0 ∧ x % 9223372036854775808 = 9218868437227405312 := by
  cases hn : nan x with
  | true =>
    have := (nan_iff x).1 hn
    rw [flt_nanr hn]
    constructor
    · intro h; cases h
    · intro h; omega
  | false =>
    have := (nan_false_iff x).1 hn
    unfold flt
    rw [hn, nn_MX]
    unfold key
    have hm : MX = 9218868437227405311 := rfl
    rw [hm, if_neg (by omega)]
    simp only [Bool.not_false, Bool.true_and, decide_eq_true_eq]
    split <;> omega

theorem isinf_neg (x : Nat) (hx : x < 18446744073709551616) (w : World) : Calls Try.prog 159 #[.float .f64 x, .int .i64 (-1)] w fun e w' => e = .returned (.bool (x == 18442240474082181120)) ∧ w = w' := by
  have hf : (flt 9218868437227405311 (negB x)) = (x == 18442240474082181120) := by
    rw [Bool.eq_iff_iff, beq_iff_eq]
    have := flt_MX (negB x)
    unfold MX at this
    rw [this]; unfold negB; split <;> omega
  have hn := negFloat_all hx
  have Hf := Lib.hid hf; clear hf
  go_enter Try.func159, Try.ntmps159
  go_wp2
  go_ret
  exact ⟨by rw [← Hf.out]; rfl, rfl⟩
theorem isinf_pos (x : Nat) (hx : x < 18446744073709551616) (w : World) : Calls Try.prog 159 #[.float .f64 x, .int .i64 1] w fun e w' => e = .returned (.bool (x == 9218868437227405312)) ∧ w = w' := by
  have hf : (flt 9218868437227405311 x) = (x == 9218868437227405312) := by
    rw [Bool.eq_iff_iff, beq_iff_eq]
    have := flt_MX x
    unfold MX at this
    rw [this]; omega
  have Hf := Lib.hid hf; clear hf
  go_enter Try.func159, Try.ntmps159
  go_wp2
  go_ret
  exact ⟨by rw [← Hf.out]; rfl, rfl⟩
theorem isinf_zero (x : Nat) (hx : x < 18446744073709551616) (w : World) : Calls Try.prog 159 #[.float .f64 x, .int .i64 0] w fun e w' => e = .returned (.bool (absB x == 9218868437227405312)) ∧ w = w' := by
  have hf : (flt 9218868437227405311 (absB x)) = (absB x == 9218868437227405312) := by
    rw [Bool.eq_iff_iff, beq_iff_eq]
    have := flt_MX (absB x)
    unfold MX at this
    rw [this]; unfold absB; omega
  have Hf := Lib.hid hf; clear hf
  go_enter Try.func159, Try.ntmps159
  go_wp2_with (go_at_call 106; refine (abs_any x hx _).mono ?_; rintro e w' ⟨rfl, rfl⟩)
  go_ret
  exact ⟨by rw [← Hf.out]; rfl, rfl⟩

theorem signbit_any (x : Nat) (w : World) : Calls Try.prog 160 #[.float .f64 x] w fun e w' => ∃ b, e = .returned (.bool b) ∧ w = w' := by
  go_enter Try.func160, Try.ntmps160
  go_wp2
  go_ret
  exact ⟨_, rfl, rfl⟩

/-- what Kind tells: no number, out of bounds, or in bounds -/
theorem kind_nan (x : Nat) (hn : nan x = true) (w : World) : Calls Try.prog 147 #[.float .f64 x] w fun e w' => e = .returned (.int .i64 0) ∧ w = w' := by
  go_enter Try.func147, Try.ntmps147
  go_wp2_with (go_at_call 107; refine (isnan_is x true hn _).mono ?_; rintro e w' ⟨rfl, rfl⟩)
  go_ret
  exact ⟨rfl, rfl⟩
def KindNum (x : Nat) (w : World) (e : Ending) (w' : World) : Prop := ∃ k : Int, e = .returned (.int .i64 k) ∧ w = w' ∧ k ≠ 0 ∧ ((k = 1 ∨ k = 2 ∨ k = 6) ↔ (flt x 0 = true ∨ x = 9218868437227405312))
theorem kind_num (x : Nat) (hx : x < 18446744073709551616) (hn : nan x = false) (w : World) : Calls Try.prog 147 #[.float .f64 x] w fun e w' => KindNum x w e w' := by
  by_cases h1 : x = 18442240474082181120
  · subst h1
    have hb : ((18442240474082181120 : Nat) == 18442240474082181120) = true := rfl
    have hi := isinf_neg 18442240474082181120 hx
    rw [hb] at hi
    have Hi := Lib.hid hi; clear hi hb
    go_enter Try.func147, Try.ntmps147
    go_wp2_with fail
    refine (isnan_is _ false hn _).mono ?_; rintro e w' ⟨rfl, rfl⟩
    go_wp2_with fail
    refine (Hi.out _).mono ?_; rintro e w' ⟨rfl, rfl⟩
    go_wp2_with fail
    go_ret
    refine ⟨1, rfl, rfl, by decide, ?_⟩
    have : flt 18442240474082181120 0 = true := by decide +kernel
    simp [this]
  · have hi := isinf_neg x hx
    rw [show (x == 18442240474082181120) = false from beq_eq_false_iff_ne.2 h1] at hi
    have Hi := Lib.hid hi; clear hi
    by_cases h2 : x = 9218868437227405312
    · subst h2
      have hj := isinf_pos 9218868437227405312 hx
      rw [show ((9218868437227405312 : Nat) == 9218868437227405312) = true from rfl] at hj
      have Hj := Lib.hid hj; clear hj h1
      go_enter Try.func147, Try.ntmps147
      go_wp2_with fail
      refine (isnan_is _ false hn _).mono ?_; rintro e w' ⟨rfl, rfl⟩
      go_wp2_with fail
      refine (Hi.out _).mono ?_; rintro e w' ⟨rfl, rfl⟩
      go_wp2_with fail
      refine (Hj.out _).mono ?_; rintro e w' ⟨rfl, rfl⟩
      go_wp2_with fail
      go_ret
      exact ⟨6, rfl, rfl, by decide, by simp⟩
    · have hj := isinf_pos x hx
      rw [show (x == 9218868437227405312) = false from beq_eq_false_iff_ne.2 h2] at hj
      have Hj := Lib.hid hj; have H2 := Lib.hid h2; clear hj h1 h2
      cases hl : flt x 0 with
      | true =>
        go_enter Try.func147, Try.ntmps147
        go_wp2_with fail
        refine (isnan_is _ false hn _).mono ?_; rintro e w' ⟨rfl, rfl⟩
        go_wp2_with fail
        refine (Hi.out _).mono ?_; rintro e w' ⟨rfl, rfl⟩
        go_wp2_with fail
        refine (Hj.out _).mono ?_; rintro e w' ⟨rfl, rfl⟩
        go_wp2_with fail
        go_ret
        exact ⟨2, rfl, rfl, by decide, by simp [hl]⟩
      | false =>
        cases hg : flt 0 x with
        | true =>
          go_enter Try.func147, Try.ntmps147
          go_wp2_with fail
          refine (isnan_is _ false hn _).mono ?_; rintro e w' ⟨rfl, rfl⟩
          go_wp2_with fail
          refine (Hi.out _).mono ?_; rintro e w' ⟨rfl, rfl⟩
          go_wp2_with fail
          refine (Hj.out _).mono ?_; rintro e w' ⟨rfl, rfl⟩
          go_wp2_with fail
          go_ret
          exact ⟨5, rfl, rfl, by decide, by have h2 : ¬ x = 9218868437227405312 := H2.out; simp [h2, hl]⟩
        | false =>
          go_enter Try.func147, Try.ntmps147
          go_wp2_with fail
          refine (isnan_is _ false hn _).mono ?_; rintro e w' ⟨rfl, rfl⟩
          go_wp2_with fail
          refine (Hi.out _).mono ?_; rintro e w' ⟨rfl, rfl⟩
          go_wp2_with fail
          refine (Hj.out _).mono ?_; rintro e w' ⟨rfl, rfl⟩
          go_wp2_with fail
          refine (signbit_any _ _).mono ?_; rintro e w' ⟨b, rfl, rfl⟩
          have h2 : ¬ x = 9218868437227405312 := H2.out
          have hk4 : KindNum x w (.returned (.int .i64 4)) w := ⟨4, rfl, rfl, by decide, by simp [h2, hl]⟩
          have hk3 : KindNum x w (.returned (.int .i64 3)) w := ⟨3, rfl, rfl, by decide, by simp [h2, hl]⟩
          clear h2
          have K4 := Lib.hid hk4; have K3 := Lib.hid hk3; clear hk4 hk3
          cases b with
          | true => go_wp2_with fail; go_ret; exact K3.out
          | false => go_wp2_with fail; go_ret; exact K4.out

theorem norm_normal (x : Nat) (h1 : 4503599627370496 ≤ x) (h2 : x < 9218868437227405312) (w : World) :
    Calls Try.prog 167 #[.float .f64 x] w fun e w' => e = .returned (.tuple #[.float .f64 x, .int .i64 0]) ∧ w = w' := by
  have ha : absB x = x := by unfold absB; omega
  have hl : flt x 4503599627370496 = false := by rw [flt_pos (by omega) (by omega)]; exact decide_eq_false (by omega)
  have hc := abs_any x (by omega)
  rw [ha] at hc
  have Hc := Lib.hid hc; clear hc ha
  go_enter Try.func167, Try.ntmps167
  go_wp2_with fail
  refine (Hc.out _).mono ?_; rintro e w' ⟨rfl, rfl⟩
  go_wp2_with fail
  go_ret2
  exact ⟨rfl, rfl⟩
theorem norm_sub (x y : Nat) (h1 : x < 4503599627370496) (hy : floatBits .mul .f64 x c52 = some y) (w : World) :
    Calls Try.prog 167 #[.float .f64 x] w fun e w' => e = .returned (.tuple #[.float .f64 y, .int .i64 (-52)]) ∧ w.drewN 0 = w' := by
  have ha : absB x = x := by unfold absB; omega
  have hl : flt x 4503599627370496 = true := by rw [flt_pos (by omega) (by omega)]; exact decide_eq_true (by omega)
  have hc := abs_any x (by omega)
  rw [ha] at hc
  unfold c52 at hy
  have hb : ∀ w, fbits .mul x 4841369599423283200 w = y := fun w => by unfold fbits; rw [hy]; rfl
  have hk : fcount .mul x 4841369599423283200 = 0 := by unfold fcount; rw [hy]; rfl
  have Hc := Lib.hid hc; clear hc ha hy
  go_enter Try.func167, Try.ntmps167
  go_wp2_with fail
  refine (Hc.out _).mono ?_; rintro e w' ⟨rfl, rfl⟩
  go_wp2_with fail
  go_ret2
  exact ⟨rfl, rfl⟩

theorem and_2047 (E : Nat) (h : E < 2048) : bits .and .i64 (E : Int) 2047 = (E : Int) := by
  show IntKind.i64.wrap ((BitVec.ofInt 64 (E : Int) &&& BitVec.ofInt 64 (2047 : Int)).toNat : Int) = _
  have e1 : (BitVec.ofInt 64 (E : Int)).toNat = E := by
    rw [BitVec.ofInt_natCast, BitVec.toNat_ofNat]; exact Nat.mod_eq_of_lt (by omega)
  have e2 : (BitVec.ofInt 64 (2047 : Int)).toNat = 2 ^ 11 - 1 := by decide
  rw [BitVec.toNat_and, e1, e2, Nat.and_two_pow_sub_one_eq_mod, Nat.mod_eq_of_lt (by omega), IntKind.wrap_i64]
  omega
theorem andnot_exp (E F : Nat) (hE : E < 2048) (hF : F < 4503599627370496) : bits .andNot .u64 ((E * 4503599627370496 + F : Nat) : Int) 9218868437227405312 = (F : Int) := by
  have h := u64_andNot_nat (E * 4503599627370496 + F) 9218868437227405312 (by omega) (by omega)
  rw [show ((9218868437227405312 : Nat) : Int) = 9218868437227405312 from rfl] at h
  rw [h]
  have e2 : 18446744073709551615 - 9218868437227405312 = 2 ^ 63 ||| (2 ^ 52 - 1) := by decide
  rw [e2, Nat.and_or_distrib_left, Nat.and_two_pow_sub_one_eq_mod]
  have h63 : (E * 4503599627370496 + F) &&& 2 ^ 63 = 0 := by
    have hb : (E * 4503599627370496 + F).testBit 63 = false := Nat.testBit_lt_two_pow (by omega)
    apply Nat.eq_of_testBit_eq
    intro i
    rw [Nat.testBit_and, Nat.testBit_two_pow, Nat.zero_testBit]
    by_cases hi : 63 = i
    · subst hi; rw [hb]; rfl
    · simp [hi]
  rw [h63, Nat.zero_or]
  have e3 : (E * 4503599627370496 + F) % 2 ^ 52 = F := by omega
  rw [e3]
theorem or_exp (E F : Nat) (hE : E < 2048) (hF : F < 4503599627370496) : bits .or .u64 (F : Int) ((E : Int) * 4503599627370496) = ((E * 4503599627370496 + F : Nat) : Int) := by
  have e : (E : Int) * 4503599627370496 = ((E * 4503599627370496 : Nat) : Int) := by omega
  rw [e, u64_or_nat F (E * 4503599627370496) (by omega) (by omega)]
  have h := Nat.two_pow_add_eq_or_of_lt (i := 52) (b := F) (by omega) E
  rw [Nat.or_comm, show E * 4503599627370496 = 2 ^ 52 * E by omega, ← h]

set_option maxRecDepth 20000 in
set_option maxHeartbeats 1000000 in
theorem ldexp_normal (x : Nat) (h1 : 4503599627370496 ≤ x) (h2 : x ≤ one) (w : World) :
    Calls Try.prog 162 #[.float .f64 x, .int .i64 20] w fun e w' => e = .returned (.float .f64 (x + 20 * 4503599627370496)) ∧ ∃ n, w' = w.drewN n := by
  have ho : one = 4607182418800017408 := rfl
  rw [ho] at h2
  have hn : nan x = false := (nan_false_iff x).2 (by omega)
  have hz : feq x 0 = false := by
    cases h : feq x 0 with
    | false => rfl
    | true => rcases (feq_zero (by omega)).1 h with h | h <;> omega
  have hi := isinf_zero x (by omega)
  rw [show (absB x == 9218868437227405312) = false from beq_eq_false_iff_ne.2 (by unfold absB; omega)] at hi
  have Hi := Lib.hid hi; clear hi
  obtain ⟨E, F, hx, hF, hE1, hE2⟩ : ∃ E F : Nat, x = E * 4503599627370496 + F ∧ F < 4503599627370496 ∧ 1 ≤ E ∧ E ≤ 1023 := ⟨x / 4503599627370496, x % 4503599627370496, by omega, by omega, by omega, by omega⟩
  have ha : bits .and .i64 ((x : Int) / 4503599627370496) 2047 = (E : Int) := by
    have : (x : Int) / 4503599627370496 = (E : Int) := by omega
    rw [this]; exact and_2047 E (by omega)
  have hb : bits .andNot .u64 (x : Int) 9218868437227405312 = (F : Int) := by rw [hx]; exact andnot_exp E F (by omega) hF
  have hor : bits .or .u64 (F : Int) ((20 + ((E : Int) - 1023) + 1023) * 4503599627370496) = ((x + 20 * 4503599627370496 : Nat) : Int) := by
    have e : (20 + ((E : Int) - 1023) + 1023) = ((E + 20 : Nat) : Int) := by omega
    have e2 : (E + 20) * 4503599627370496 + F = E * 4503599627370496 + F + 20 * 4503599627370496 := by omega
    rw [e, or_exp (E + 20) F (by omega) hF, hx, e2]
  have hm := mul1 (w := x + 20 * 4503599627370496) (by omega)
  rw [ho] at hm
  have hm1 : ∀ w, fbits .mul 4607182418800017408 (x + 20 * 4503599627370496) w = x + 20 * 4503599627370496 := fun w => by unfold fbits; rw [hm]; rfl
  have hm2 : fcount .mul 4607182418800017408 (x + 20 * 4503599627370496) = 0 := by unfold fcount; rw [hm]; rfl
  generalize x + 20 * 4503599627370496 = W at *
  clear hm hx ho
  go_enter Try.func162, Try.ntmps162
  go_wp2_with fail
  refine (Hi.out _).mono ?_; rintro e w' ⟨rfl, rfl⟩
  go_wp2_with fail
  refine (isnan_is _ false hn _).mono ?_; rintro e w' ⟨rfl, rfl⟩
  go_wp2_with fail
  refine (norm_normal x h1 (by omega) _).mono ?_; rintro e w' ⟨rfl, rfl⟩
  go_wp2_with fail
  go_ret
  exact ⟨rfl, 0, rfl⟩

end Go.Proofs.Ytdoemgccmjddcaa.Cl
