/- Stats, the small ones: None, below, Same, Ratio, IsNaN, Abs, bits and back. -/
import Derived.Test.YtdoemgccmjddcaaProg
import Derived.Test.YtdoemgccmjddcaaFo
import Derived.Test.YtdoemgccmjddcaaWd
namespace Go.Proofs.Ytdoemgccmjddcaa.St
open Go.RowKit Fl Wd
attribute [local go_sem] run_store_float

/-- what a float call comes to that leaves the world alone but for draws -/
def RetF (w : World) (c : Nat) (e : Ending) (w' : World) : Prop := ∃ r n, e = .returned (.float .f64 r) ∧ cf r = c ∧ r < 18446744073709551616 ∧ w' = w.drewN n

theorem fbits_lt (op : BinOp) (x y : Nat) (w : World) : fbits op x y w < 18446744073709551616 := by
  unfold fbits
  cases h : floatBits op .f64 x y with
  | some r => have := floatBits_wf h; simpa [Lit.wf] using this
  | none =>
    show drawnNan _ w < _
    unfold drawnNan Question.cut
    simp only []
    generalize w.tape w.drawn _ = t
    have h1 : t / 2 % (2 ^ 52 - 1) < 2 ^ 52 - 1 := Nat.mod_lt _ (by decide)
    have h2 : t % 2 = 0 ∨ t % 2 = 1 := by omega
    rcases h2 with h2 | h2 <;> rw [h2] <;> omega

theorem none_any (x : Nat) (w : World) : Calls Try.prog 102 #[.float .f64 x] w fun e w' => e = .returned (.bool (nan x)) ∧ w = w' := by
  go_enter Try.func102, Try.ntmps102
  go_wp2
  go_ret
  exact ⟨by simp [feq_self], rfl⟩
theorem isnan_any (x : Nat) (w : World) : Calls Try.prog 107 #[.float .f64 x] w fun e w' => e = .returned (.bool (nan x)) ∧ w = w' := by
  go_enter Try.func107, Try.ntmps107
  go_wp2
  go_ret
  exact ⟨by simp [feq_self], rfl⟩

/-- is it below 0, by its sign? -/
def neg (x : Nat) : Bool := !nan x && x / 9223372036854775808 % 2 == 1
theorem fq0 : floatBits .quo .f64 4607182418800017408 0 = some 9218868437227405312 := by decide +kernel
theorem fq1 : floatBits .quo .f64 4607182418800017408 9223372036854775808 = some 18442240474082181120 := by decide +kernel
theorem feq_zero {x : Nat} (hx : x < 18446744073709551616) : feq x 0 = true ↔ x = 0 ∨ x = 9223372036854775808 := by
  have h0 : nan 0 = false := by decide +kernel
  have h1 : nan 9223372036854775808 = false := by decide +kernel
  constructor
  · intro h
    unfold feq at h
    simp only [Bool.and_eq_true, decide_eq_true_eq] at h
    obtain ⟨_, h⟩ := h
    unfold key at h
    simp at h
    split at h <;> omega
  · rintro (rfl | rfl) <;> decide +kernel
theorem flt_zero {x : Nat} (hx : x < 18446744073709551616) (hz : feq x 0 = false) : flt x 0 = neg x := by
  have h0 : nan 0 = false := by decide +kernel
  cases hn : nan x with
  | true => simp [flt, neg, hn]
  | false =>
    have hz' : ¬ (x = 0 ∨ x = 9223372036854775808) := fun h => by rw [(feq_zero hx).2 h] at hz; cases hz
    unfold flt neg key
    simp only [hn, h0, Bool.not_false, Bool.true_and]
    have a1 : x / 9223372036854775808 % 2 = 0 ∨ x / 9223372036854775808 % 2 = 1 := by omega
    rcases a1 with a | a <;> simp [a] <;> omega

theorem below_any (x : Nat) (hx : x < 18446744073709551616) (w : World) : Calls Try.prog 103 #[.float .f64 x] w fun e w' => e = .returned (.bool (neg x)) ∧ w = w' := by
  cases hz : feq x 0 with
  | true =>
    have hl : flt x 0 = false := by
      rcases (feq_zero hx).1 hz with rfl | rfl <;> decide +kernel
    have hq : ∃ r, floatBits .quo .f64 4607182418800017408 x = some r ∧ flt r 0 = neg x := by
      rcases (feq_zero hx).1 hz with rfl | rfl
      · exact ⟨_, fq0, by decide +kernel⟩
      · exact ⟨_, fq1, by decide +kernel⟩
    obtain ⟨r, hr, hrn⟩ := hq
    have hb : ∀ w, fbits .quo 4607182418800017408 x w = r := fun w => by simp [fbits, hr]
    have hc : fcount .quo 4607182418800017408 x = 0 := by simp [fcount, hr]
    clear hr
    go_enter Try.func103, Try.ntmps103
    go_wp2
    go_ret
    exact ⟨by simp [hrn], rfl⟩
  | false =>
    have hl := flt_zero hx hz
    cases hn : neg x with
    | true =>
      rw [hn] at hl
      go_enter Try.func103, Try.ntmps103
      go_wp2
      go_ret
      exact ⟨rfl, rfl⟩
    | false =>
      rw [hn] at hl
      go_enter Try.func103, Try.ntmps103
      go_wp2
      go_ret
      exact ⟨rfl, rfl⟩

/-- the same float, NaNs taken together -/
def same (a b : Nat) : Bool := cf a == cf b
theorem key_inj {a b : Nat} (ha : a < 18446744073709551616) (hb : b < 18446744073709551616) (h : key a = key b) (hs : (a / 9223372036854775808 % 2 == 1) = (b / 9223372036854775808 % 2 == 1)) : a = b := by
  have a1 : a / 9223372036854775808 % 2 = 0 ∨ a / 9223372036854775808 % 2 = 1 := by omega
  have a2 : b / 9223372036854775808 % 2 = 0 ∨ b / 9223372036854775808 % 2 = 1 := by omega
  unfold key at h
  rcases a1 with a1 | a1 <;> rcases a2 with a2 | a2 <;> simp [a1, a2] at h hs <;> omega
theorem cf_num {a : Nat} (h : nan a = false) : cf a = a := by simp [cf, h]
theorem cf_nan {a : Nat} (h : nan a = true) : cf a = nanC := by simp [cf, h]

theorem same_any (a b : Nat) (ha : a < 18446744073709551616) (hb : b < 18446744073709551616) (w : World) :
    Calls Try.prog 21 #[.float .f64 a, .float .f64 b] w fun e w' => e = .returned (.bool (same a b)) ∧ w = w' := by
  have ca := none_any a
  have cb := none_any b
  have da := below_any a ha
  have db := below_any b hb
  have Ha := Lib.hid ca; have Hb := Lib.hid cb; have Da := Lib.hid da; have Db := Lib.hid db
  clear ca cb da db
  cases hna : nan a with
  | true =>
    rw [hna] at Ha
    cases hnb : nan b with
    | true =>
      rw [hnb] at Hb
      have e : same a b = true := by simp [same, cf_nan hna, cf_nan hnb]
      rw [e]
      clear e
      go_enter Try.func21, Try.ntmps21
      go_wp2_with fail
      refine (Ha.out _).mono ?_; rintro e w' ⟨rfl, rfl⟩
      go_wp2_with fail
      refine (Ha.out _).mono ?_; rintro e w' ⟨rfl, rfl⟩
      go_wp2_with fail
      refine (Hb.out _).mono ?_; rintro e w' ⟨rfl, rfl⟩
      go_wp2_with fail
      go_ret
      exact ⟨rfl, rfl⟩
    | false =>
      rw [hnb] at Hb
      have e : same a b = false := by
        simp only [same, cf_nan hna, cf_num hnb, beq_eq_false_iff_ne]
        intro h; rw [← h, nan_nanC] at hnb; cases hnb
      rw [e]
      clear e
      go_enter Try.func21, Try.ntmps21
      go_wp2_with fail
      refine (Ha.out _).mono ?_; rintro e w' ⟨rfl, rfl⟩
      go_wp2_with fail
      refine (Ha.out _).mono ?_; rintro e w' ⟨rfl, rfl⟩
      go_wp2_with fail
      refine (Hb.out _).mono ?_; rintro e w' ⟨rfl, rfl⟩
      go_wp2_with fail
      go_ret
      exact ⟨rfl, rfl⟩
  | false =>
    rw [hna] at Ha
    cases hnb : nan b with
    | true =>
      rw [hnb] at Hb
      have e : same a b = false := by
        simp only [same, cf_num hna, cf_nan hnb, beq_eq_false_iff_ne]
        intro h; rw [h, nan_nanC] at hna; cases hna
      rw [e]
      clear e
      go_enter Try.func21, Try.ntmps21
      go_wp2_with fail
      refine (Ha.out _).mono ?_; rintro e w' ⟨rfl, rfl⟩
      go_wp2_with fail
      refine (Hb.out _).mono ?_; rintro e w' ⟨rfl, rfl⟩
      go_wp2_with fail
      refine (Ha.out _).mono ?_; rintro e w' ⟨rfl, rfl⟩
      go_wp2_with fail
      go_ret
      exact ⟨rfl, rfl⟩
    | false =>
      rw [hnb] at Hb
      cases hq : feq a b with
      | false =>
        have e : same a b = false := by
          simp only [same, cf_num hna, cf_num hnb, beq_eq_false_iff_ne]
          rintro rfl; rw [feq_self, hna] at hq; cases hq
        rw [e]
        clear e
        go_enter Try.func21, Try.ntmps21
        go_wp2_with fail
        refine (Ha.out _).mono ?_; rintro e w' ⟨rfl, rfl⟩
        go_wp2_with fail
        refine (Hb.out _).mono ?_; rintro e w' ⟨rfl, rfl⟩
        go_wp2_with fail
        go_ret
        exact ⟨rfl, rfl⟩
      | true =>
        have e : (neg a == neg b) = same a b := by
          have hk : key a = key b := by unfold feq at hq; simp [hna, hnb] at hq; exact hq
          simp only [same, cf_num hna, cf_num hnb, neg, hna, hnb, Bool.not_false, Bool.true_and]
          rw [Bool.eq_iff_iff, beq_iff_eq, beq_iff_eq]
          exact ⟨fun h => key_inj ha hb hk h, fun h => by rw [h]⟩
        have E := Lib.hid e
        clear e
        go_enter Try.func21, Try.ntmps21
        go_wp2_with fail
        refine (Ha.out _).mono ?_; rintro e w' ⟨rfl, rfl⟩
        go_wp2_with fail
        refine (Hb.out _).mono ?_; rintro e w' ⟨rfl, rfl⟩
        go_wp2_with fail
        refine (Da.out _).mono ?_; rintro e w' ⟨rfl, rfl⟩
        go_wp2_with fail
        refine (Db.out _).mono ?_; rintro e w' ⟨rfl, rfl⟩
        go_wp2_with fail
        go_ret
        exact ⟨by rw [← E.out]; rfl, rfl⟩

theorem ratio_any (a b : Int) (w : World) : Calls Try.prog 22 #[.int .i64 a, .int .i64 b] w fun e w' =>
    e = .returned (.float .f64 (fbits .quo (floatOfInt .f64 a) (floatOfInt .f64 b) w)) ∧ w.drewN (fcount .quo (floatOfInt .f64 a) (floatOfInt .f64 b)) = w' := by
  go_enter Try.func22, Try.ntmps22
  go_wp2
  go_ret
  exact ⟨rfl, rfl⟩

@[go_sem] theorem run_frombits (n : Int) (w : World) : (callFunc 101 #[.int .u64 n]).run Try.prog w = .ok (.value (.float .f64 n.toNat)) w := by
  rw [run_callFunc_extern Try.func101 (by kernel_rfl) (by kernel_rfl) (by kernel_rfl) (e := Extern.MathFloatBits.float64frombits) (by kernel_rfl)]; rfl
@[go_sem] theorem run_tobits (n : Nat) (w : World) : (callFunc 144 #[.float .f64 n]).run Try.prog w = .ok (.value (.int .u64 (n : Int))) w := by
  rw [run_callFunc_extern Try.func144 (by kernel_rfl) (by kernel_rfl) (by kernel_rfl) (e := Extern.MathFloatBits.float64bits) (by kernel_rfl)]; rfl

/-- the bits without their sign -/
def absB (x : Nat) : Nat := x % 9223372036854775808
theorem abs_bits (x : Nat) (hx : x < 18446744073709551616) : (bits .andNot .u64 (x : Int) 9223372036854775808).toNat = absB x := by
  have h := u64_andNot_nat x 9223372036854775808 (by omega) (by omega)
  have e : ((9223372036854775808 : Nat) : Int) = 9223372036854775808 := rfl
  rw [← e, h]
  have e2 : 18446744073709551615 - 9223372036854775808 = 2 ^ 63 - 1 := by decide
  rw [e2, Nat.and_two_pow_sub_one_eq_mod]
  rfl
theorem abs_any (x : Nat) (hx : x < 18446744073709551616) (w : World) : Calls Try.prog 106 #[.float .f64 x] w fun e w' => e = .returned (.float .f64 (absB x)) ∧ w = w' := by
  go_enter Try.func106, Try.ntmps106
  go_wp2
  go_ret
  exact ⟨by rw [← abs_bits x hx]; rfl, rfl⟩

end Go.Proofs.Ytdoemgccmjddcaa.St
