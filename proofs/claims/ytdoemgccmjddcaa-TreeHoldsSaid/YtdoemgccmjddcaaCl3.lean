/- Classes: Units by halving; Right, the program's and the document's. -/
import Derived.Test.YtdoemgccmjddcaaCl2
namespace Go.Proofs.Ytdoemgccmjddcaa.Cl
open Go.RowKit Fl Wd St

theorem halves_of {x : Nat} (hx : x < 18446744073709551616) (hn : nan x = false) (h1 : flt x 0 = false) (h2 : flt one x = false) :
    ∃ y, floatBits .mul .f64 x c20 = some y ∧ Halves y (mag (x % 9223372036854775808) * 2 ^ 20) := by
  rcases in_bounds hx hn h1 h2 with hb | rfl
  · obtain ⟨y, hy, hh⟩ := halves_pos hb
    have hmod : x % 9223372036854775808 = x := by have : one = 4607182418800017408 := rfl; omega
    rw [hmod]
    exact ⟨y, hy, hh⟩
  · obtain ⟨hy, hh⟩ := halves_neg
    rw [show 9223372036854775808 % 9223372036854775808 = 0 from rfl, mag_zero, Nat.zero_mul]
    exact ⟨_, hy, hh⟩
theorem rhe_eq (A : Nat) : rhe A = A / U + if (decide (U < 2 * (A % U)) || (decide (U = 2 * (A % U)) && decide (A / U % 2 = 1))) = true then 1 else 0 := by
  unfold rhe
  refine congrArg (A / U + ·) ?_
  generalize U = u
  generalize A % u = r
  generalize A / u = q
  by_cases h1 : u < 2 * r <;> by_cases h2 : u = 2 * r <;> by_cases h3 : q % 2 = 1 <;> simp [h1, h2, h3]

set_option maxRecDepth 20000 in
set_option maxHeartbeats 1000000 in
theorem refunits_any (x : Nat) (hx : x < 18446744073709551616) (w : World) : Calls Try.prog 117 #[.float .f64 x] w fun e w' => RetU (unitsS x) w e w' := by
  have hnone := none_any x
  cases hn : nan x with
  | true =>
    have hu : unitsS x = (0, 21) := by unfold unitsS; rw [if_pos hn]
    rw [hu]; clear hu
    rw [hn] at hnone
    have Hnone := Lib.hid hnone; clear hnone
    go_enter Try.func117, Try.ntmps117
    go_wp2_with fail
    refine (Hnone.out _).mono ?_; rintro e w' ⟨rfl, rfl⟩
    go_wp2_with fail
    go_ret2
    exact ⟨rfl, 0, rfl⟩
  | false =>
    rw [hn] at hnone
    have Hnone := Lib.hid hnone; clear hnone
    cases hl : flt x 0 with
    | true =>
      have hu : unitsS x = (0, 2) := by unfold unitsS; rw [if_neg (by rw [hn]; decide), hl]; rfl
      rw [hu]; clear hu
      go_enter Try.func117, Try.ntmps117
      go_wp2_with fail
      refine (Hnone.out _).mono ?_; rintro e w' ⟨rfl, rfl⟩
      go_wp2_with fail
      go_ret2
      exact ⟨rfl, 0, rfl⟩
    | false =>
      cases hg : flt one x with
      | true =>
        have hu : unitsS x = (0, 2) := by unfold unitsS; rw [if_neg (by rw [hn]; decide), hl, hg]; rfl
        rw [hu]; clear hu
        unfold one at hg
        go_enter Try.func117, Try.ntmps117
        go_wp2_with fail
        refine (Hnone.out _).mono ?_; rintro e w' ⟨rfl, rfl⟩
        go_wp2_with fail
        go_ret2
        exact ⟨rfl, 0, rfl⟩
      | false =>
        have hu : unitsS x = (rhe (mag (x % 9223372036854775808) * 2 ^ 20), 0) := by unfold unitsS; rw [if_neg (by rw [hn]; decide), hl, hg]; rfl
        rw [hu]; clear hu
        obtain ⟨y, hy, hh⟩ := halves_of hx hn hl hg
        unfold one at hg
        unfold c20 at hy
        have hm1 : ∀ w, fbits .mul x 4697254411347427328 w = y := fun w => by unfold fbits; rw [hy]; rfl
        have hm2 : fcount .mul x 4697254411347427328 = 0 := by unfold fcount; rw [hy]; rfl
        generalize mag (x % 9223372036854775808) * 2 ^ 20 = A at *
        have Hh := Lib.hid hh
        have hq : A / U ≤ 1048576 := by
          have := Nat.div_le_div_right (c := U) hh.top
          rwa [Nat.mul_div_cancel _ U_pos] at this
        clear hy hh
        go_enter Try.func117, Try.ntmps117
        go_wp2_with fail
        refine (Hnone.out _).mono ?_; rintro e w' ⟨rfl, rfl⟩
        go_wp2_with fail
        go_loopw [5, 6, 7] (fun lo hi _ wr => ∃ a b : Nat, a ≤ A / U ∧ A / U < b ∧ b ≤ 1048577 ∧ lo = .int .i64 a ∧ hi = .int .i64 b ∧ ∃ n, wr = w.drewN n)
          (fun lo hi _ _ => (intOf hi - intOf lo).toNat)
        case atStart => exact ⟨0, 1048577, Nat.zero_le _, Nat.lt_succ_of_le hq, Nat.le_refl _, rfl, rfl, 0, rfl⟩
        case round =>
          obtain ⟨a, b, ha, hb, hb2, rfl, rfl, n, rfl⟩ := hrel
          by_cases hlt : 1 < b - a
          · obtain ⟨m, hm⟩ : ∃ m : Nat, ((a : Int) + (b : Int)) / 2 = (m : Int) := ⟨(a + b) / 2, by omega⟩
            have hma : a < m := by omega
            have hmb : m < b := by omega
            have hle := Hh.out.le m (by omega) (by omega)
            have hle2 : decide (m * U ≤ A) = decide (m ≤ A / U) := by rw [decide_eq_decide]; exact (Nat.le_div_iff_mul_le U_pos).symm
            rw [hle2] at hle
            have i1 : (1 : Int) < (b : Int) - (a : Int) := by omega
            by_cases hmq : m ≤ A / U
            · rw [decide_eq_true hmq] at hle
              clear hle2
              go_wp2
              go_roundw
              case rel => exact ⟨m, b, hmq, hb, hb2, by rw [hm], rfl, _, rfl⟩
              case measure => simp [intOf]; omega
            · rw [decide_eq_false hmq] at hle
              clear hle2
              go_wp2
              go_roundw
              case rel => exact ⟨a, m, ha, by omega, by omega, rfl, by rw [hm], _, rfl⟩
              case measure => simp [intOf]; omega
          · have hab : a = A / U := by omega
            have i1 : ¬ (1 : Int) < (b : Int) - (a : Int) := by omega
            obtain ⟨r, hr1, hr2, hr3, hr4⟩ := Hh.out.rest
            have hre := rhe_eq A
            rw [← hab] at hr1 hr2 hre
            rw [← hr3, ← hr4] at hre
            have Hre := Lib.hid hre
            unfold half at hr3 hr4 hre Hre
            clear hre
            have Hab := Lib.hid hab; clear hab
            cases h3 : flt 4602678819172646912 r with
            | true =>
              rw [h3] at hr3
              clear hr3 hr4
              go_wp2
              go_ret2
              refine ⟨?_, _, rfl⟩
              rw [Hre.out, h3]; rfl
            | false =>
              cases h4 : feq r 4602678819172646912 with
              | false =>
                clear hr3 hr4
                go_wp2
                go_ret2
                refine ⟨?_, _, rfl⟩
                rw [Hre.out, h3, h4]; rfl
              | true =>
                clear hr3 hr4
                by_cases hodd : a % 2 = 1
                · have ho : ((a : Int) % 2 == 1) = true := by rw [beq_iff_eq]; omega
                  go_wp2
                  go_ret2
                  refine ⟨?_, _, rfl⟩
                  rw [Hre.out, h3, h4, if_pos (by simp [hodd])]; rfl
                · have ho : ((a : Int) % 2 == 1) = false := by rw [beq_eq_false_iff_ne]; omega
                  go_wp2
                  go_ret2
                  refine ⟨?_, _, rfl⟩
                  rw [Hre.out, h3, h4, if_neg (by simp [hodd])]; rfl

/-- a class -/
structure Cls where
  id : Int
  parent : Int
  share : Nat
  prio : Int
  quantum : Int
  limit : Int
  weight : Int
  minIdle : Int
  maxIdle : Int
  bounded : Bool
  isolated : Bool
def Cls.cells (c : Cls) : List Value := [.int .i64 c.id, .int .i64 c.parent, .float .f64 c.share, .int .i64 c.prio, .int .i64 c.quantum, .int .i64 c.limit, .int .i64 c.weight, .int .i64 c.minIdle, .int .i64 c.maxIdle, .bool c.bounded, .bool c.isolated]
abbrev Cls.agg (c : Cls) : Value := .agg #[.int .i64 c.id, .int .i64 c.parent, .float .f64 c.share, .int .i64 c.prio, .int .i64 c.quantum, .int .i64 c.limit, .int .i64 c.weight, .int .i64 c.minIdle, .int .i64 c.maxIdle, .bool c.bounded, .bool c.isolated]
/-- the error of a share -/
def fairS (b : Nat) : Int := if (unitsS b).2 = 21 then 21 else if (unitsS b).2 ≠ 0 ∨ (unitsS b).1 = 0 then 13 else 0
/-- whether a class may be, or why not -/
def rightS (c : Cls) : Int :=
  if c.id < 1 ∨ 65535 < c.id ∨ c.parent < 0 ∨ 65535 < c.parent then 2
  else if c.parent = c.id then 11
  else if fairS c.share ≠ 0 then fairS c.share
  else if c.prio < 0 ∨ 7 < c.prio then 14
  else if c.quantum < 1 ∨ 65536 < c.quantum ∨ c.limit < 1 ∨ 1024 < c.limit then 16
  else if c.weight < 0 ∨ 16 < c.weight ∨ c.minIdle < -1099511627776 ∨ 0 < c.minIdle ∨ c.maxIdle < 0 ∨ 1099511627776 < c.maxIdle then 2
  else 0

theorem units_err (b : Nat) : (unitsS b).2 = 21 ∨ (unitsS b).2 = 2 ∨ (unitsS b).2 = 0 := by
  unfold unitsS
  split
  · exact .inl rfl
  · split
    · exact .inr (.inl rfl)
    · exact .inr (.inr rfl)
set_option maxRecDepth 20000 in
set_option maxHeartbeats 400000 in
theorem fair_any (x : Nat) (hx : x < 18446744073709551616) (w : World) : Calls Try.prog 115 #[.float .f64 x] w fun e w' => e = .returned (.int .i64 (fairS x)) ∧ ∃ n, w' = w.drewN n := by
  have hu := units_any x hx
  have he := units_err x
  have hf : fairS x = if (unitsS x).2 = 21 then 21 else if (unitsS x).2 ≠ 0 ∨ (unitsS x).1 = 0 then 13 else 0 := rfl
  rw [hf]; clear hf
  generalize unitsS x = u at *
  obtain ⟨a, b⟩ := u
  simp only at he
  have Hu := Lib.hid hu; clear hu
  rcases he with rfl | rfl | rfl
  · go_enter Try.func115, Try.ntmps115
    go_wp2_with fail
    refine (Hu.out _).mono ?_; rintro e w' ⟨rfl, n, rfl⟩
    go_wp2_with fail
    go_ret
    exact ⟨rfl, _, rfl⟩
  · go_enter Try.func115, Try.ntmps115
    go_wp2_with fail
    refine (Hu.out _).mono ?_; rintro e w' ⟨rfl, n, rfl⟩
    go_wp2_with fail
    go_ret
    exact ⟨rfl, _, rfl⟩
  · by_cases h0 : a = 0
    · subst h0
      go_enter Try.func115, Try.ntmps115
      go_wp2_with fail
      refine (Hu.out _).mono ?_; rintro e w' ⟨rfl, n, rfl⟩
      go_wp2_with fail
      go_ret
      exact ⟨rfl, _, rfl⟩
    · have h1 : ((a : Int) == 0) = false := by rw [beq_eq_false_iff_ne]; omega
      have H0 := Lib.hid h0; clear h0
      go_enter Try.func115, Try.ntmps115
      go_wp2_with fail
      refine (Hu.out _).mono ?_; rintro e w' ⟨rfl, n, rfl⟩
      go_wp2_with fail
      go_ret
      refine ⟨?_, _, rfl⟩
      have h2 : ¬ a = 0 := H0.out
      simp [h2]

theorem right_2 {c : Cls} (h : c.id < 1 ∨ 65535 < c.id ∨ c.parent < 0 ∨ 65535 < c.parent) : rightS c = 2 := by unfold rightS; rw [if_pos h]
theorem right_11 {c : Cls} (h : ¬ (c.id < 1 ∨ 65535 < c.id ∨ c.parent < 0 ∨ 65535 < c.parent)) (h2 : c.parent = c.id) : rightS c = 11 := by unfold rightS; rw [if_neg h, if_pos h2]
theorem right_fair {c : Cls} (h : ¬ (c.id < 1 ∨ 65535 < c.id ∨ c.parent < 0 ∨ 65535 < c.parent)) (h2 : ¬ c.parent = c.id) (h3 : fairS c.share ≠ 0) : rightS c = fairS c.share := by
  unfold rightS; rw [if_neg h, if_neg h2, if_pos h3]
theorem right_rest {c : Cls} (h : ¬ (c.id < 1 ∨ 65535 < c.id ∨ c.parent < 0 ∨ 65535 < c.parent)) (h2 : ¬ c.parent = c.id) (h3 : fairS c.share = 0) : rightS c =
    if c.prio < 0 ∨ 7 < c.prio then 14
    else if c.quantum < 1 ∨ 65536 < c.quantum ∨ c.limit < 1 ∨ 1024 < c.limit then 16
    else if c.weight < 0 ∨ 16 < c.weight ∨ c.minIdle < -1099511627776 ∨ 0 < c.minIdle ∨ c.maxIdle < 0 ∨ 1099511627776 < c.maxIdle then 2
    else 0 := by unfold rightS; rw [if_neg h, if_neg h2, if_neg (by rw [h3]; simp)]

def Ret1 (v : Value) (w : World) (e : Ending) (w' : World) : Prop := e = .returned v ∧ Below w.heap.size w w'
theorem between_is {n lo hi : Int} {b : Bool} (h : (decide (lo ≤ n) && decide (n ≤ hi)) = b) (w : World) : Calls Try.prog 116 #[.int .i64 n, .int .i64 lo, .int .i64 hi] w fun e w' => e = .returned (.bool b) ∧ w = w' := h ▸ between_any n lo hi w
theorem bt_t {n lo hi : Int} (h : lo ≤ n ∧ n ≤ hi) : (decide (lo ≤ n) && decide (n ≤ hi)) = true := by simp [h.1, h.2]
theorem bt_f {n lo hi : Int} (h : ¬ (lo ≤ n ∧ n ≤ hi)) : (decide (lo ≤ n) && decide (n ≤ hi)) = false := by
  by_cases h1 : lo ≤ n
  · have : ¬ n ≤ hi := fun h2 => h ⟨h1, h2⟩
    simp [this]
  · simp [h1]

set_option maxRecDepth 20000 in
set_option maxHeartbeats 2000000 in
theorem right_any (c : Cls) (hs : c.share < 18446744073709551616) (w : World) : Calls Try.prog 39 #[c.agg] w (Ret1 (.int .i64 (rightS c)) w) := by
  have hfair := fair_any c.share hs
  have r2 := @right_2 c; have r11 := @right_11 c; have rf := @right_fair c; have rr := @right_rest c
  obtain ⟨id, parent, share, prio, quantum, limit, weight, minIdle, maxIdle, bounded, isolated⟩ := c
  unfold Cls.agg
  simp only at *
  generalize rightS _ = R at *
  generalize fairS share = fs at *
  have Hfair := Lib.hid hfair; have R2 := Lib.hid r2; have R11 := Lib.hid r11; have Rf := Lib.hid rf; have Rr := Lib.hid rr
  clear hfair r2 r11 rf rr
  by_cases h0 : 1 ≤ id ∧ id ≤ 65535
  · have b0 := Lib.hid (bt_t h0)
    by_cases h1 : 0 ≤ parent ∧ parent ≤ 65535
    · have b1 := Lib.hid (bt_t h1)
      by_cases hpi : parent = id
      · have hr := R11.out (by omega) hpi
        subst hpi; subst hr
        clear h0 h1
        go_enter Try.func39, Try.ntmps39
        go_wp2_with fail
        refine (Hfair.out _).mono ?_; rintro e w' ⟨rfl, n, rfl⟩
        go_wp2_with fail
        refine (between_is b0.out _).mono ?_; rintro e w' ⟨rfl, rfl⟩
        go_wp2_with fail
        refine (between_is b1.out _).mono ?_; rintro e w' ⟨rfl, rfl⟩
        go_wp2_with fail
        go_ret
        exact ⟨rfl, below_drewN ((Below.refl _ w).alloc (Nat.le_refl _) _) _⟩
      · have hpb : (parent == id) = false := beq_eq_false_iff_ne.2 hpi
        by_cases hfs : fs = 0
        · subst hfs
          by_cases h2 : 0 ≤ prio ∧ prio ≤ 7
          · have b2 := Lib.hid (bt_t h2)
            by_cases h3 : 1 ≤ quantum ∧ quantum ≤ 65536
            · have b3 := Lib.hid (bt_t h3)
              by_cases h4 : 1 ≤ limit ∧ limit ≤ 1024
              · have b4 := Lib.hid (bt_t h4)
                by_cases h5 : 0 ≤ weight ∧ weight ≤ 16
                · have b5 := Lib.hid (bt_t h5)
                  by_cases h6 : -1099511627776 ≤ minIdle ∧ minIdle ≤ 0
                  · have b6 := Lib.hid (bt_t h6)
                    by_cases h7 : 0 ≤ maxIdle ∧ maxIdle ≤ 1099511627776
                    · have b7 := Lib.hid (bt_t h7)
                      have hr := Rr.out (by omega) hpi rfl
                      rw [if_neg (by omega), if_neg (by omega), if_neg (by omega)] at hr
                      subst hr
                      clear h0 h1 h2 h3 h4 h5 h6 h7
                      go_enter Try.func39, Try.ntmps39
                      go_wp2_with fail
                      refine (Hfair.out _).mono ?_; rintro e w' ⟨rfl, n, rfl⟩
                      go_wp2_with fail
                      refine (between_is b0.out _).mono ?_; rintro e w' ⟨rfl, rfl⟩
                      go_wp2_with fail
                      refine (between_is b1.out _).mono ?_; rintro e w' ⟨rfl, rfl⟩
                      go_wp2_with fail
                      refine (between_is b2.out _).mono ?_; rintro e w' ⟨rfl, rfl⟩
                      go_wp2_with fail
                      refine (between_is b3.out _).mono ?_; rintro e w' ⟨rfl, rfl⟩
                      go_wp2_with fail
                      refine (between_is b4.out _).mono ?_; rintro e w' ⟨rfl, rfl⟩
                      go_wp2_with fail
                      refine (between_is b5.out _).mono ?_; rintro e w' ⟨rfl, rfl⟩
                      go_wp2_with fail
                      refine (between_is b6.out _).mono ?_; rintro e w' ⟨rfl, rfl⟩
                      go_wp2_with fail
                      refine (between_is b7.out _).mono ?_; rintro e w' ⟨rfl, rfl⟩
                      go_wp2_with fail
                      go_ret
                      exact ⟨rfl, below_drewN ((Below.refl _ w).alloc (Nat.le_refl _) _) _⟩
                    · have b7 := Lib.hid (bt_f h7)
                      have hr := Rr.out (by omega) hpi rfl
                      rw [if_neg (by omega), if_neg (by omega), if_pos (by omega)] at hr
                      subst hr
                      clear h0 h1 h2 h3 h4 h5 h6 h7
                      go_enter Try.func39, Try.ntmps39
                      go_wp2_with fail
                      refine (Hfair.out _).mono ?_; rintro e w' ⟨rfl, n, rfl⟩
                      go_wp2_with fail
                      refine (between_is b0.out _).mono ?_; rintro e w' ⟨rfl, rfl⟩
                      go_wp2_with fail
                      refine (between_is b1.out _).mono ?_; rintro e w' ⟨rfl, rfl⟩
                      go_wp2_with fail
                      refine (between_is b2.out _).mono ?_; rintro e w' ⟨rfl, rfl⟩
                      go_wp2_with fail
                      refine (between_is b3.out _).mono ?_; rintro e w' ⟨rfl, rfl⟩
                      go_wp2_with fail
                      refine (between_is b4.out _).mono ?_; rintro e w' ⟨rfl, rfl⟩
                      go_wp2_with fail
                      refine (between_is b5.out _).mono ?_; rintro e w' ⟨rfl, rfl⟩
                      go_wp2_with fail
                      refine (between_is b6.out _).mono ?_; rintro e w' ⟨rfl, rfl⟩
                      go_wp2_with fail
                      refine (between_is b7.out _).mono ?_; rintro e w' ⟨rfl, rfl⟩
                      go_wp2_with fail
                      go_ret
                      exact ⟨rfl, below_drewN ((Below.refl _ w).alloc (Nat.le_refl _) _) _⟩
                  · have b6 := Lib.hid (bt_f h6)
                    have hr := Rr.out (by omega) hpi rfl
                    rw [if_neg (by omega), if_neg (by omega), if_pos (by omega)] at hr
                    subst hr
                    clear h0 h1 h2 h3 h4 h5 h6
                    go_enter Try.func39, Try.ntmps39
                    go_wp2_with fail
                    refine (Hfair.out _).mono ?_; rintro e w' ⟨rfl, n, rfl⟩
                    go_wp2_with fail
                    refine (between_is b0.out _).mono ?_; rintro e w' ⟨rfl, rfl⟩
                    go_wp2_with fail
                    refine (between_is b1.out _).mono ?_; rintro e w' ⟨rfl, rfl⟩
                    go_wp2_with fail
                    refine (between_is b2.out _).mono ?_; rintro e w' ⟨rfl, rfl⟩
                    go_wp2_with fail
                    refine (between_is b3.out _).mono ?_; rintro e w' ⟨rfl, rfl⟩
                    go_wp2_with fail
                    refine (between_is b4.out _).mono ?_; rintro e w' ⟨rfl, rfl⟩
                    go_wp2_with fail
                    refine (between_is b5.out _).mono ?_; rintro e w' ⟨rfl, rfl⟩
                    go_wp2_with fail
                    refine (between_is b6.out _).mono ?_; rintro e w' ⟨rfl, rfl⟩
                    go_wp2_with fail
                    go_ret
                    exact ⟨rfl, below_drewN ((Below.refl _ w).alloc (Nat.le_refl _) _) _⟩
                · have b5 := Lib.hid (bt_f h5)
                  have hr := Rr.out (by omega) hpi rfl
                  rw [if_neg (by omega), if_neg (by omega), if_pos (by omega)] at hr
                  subst hr
                  clear h0 h1 h2 h3 h4 h5
                  go_enter Try.func39, Try.ntmps39
                  go_wp2_with fail
                  refine (Hfair.out _).mono ?_; rintro e w' ⟨rfl, n, rfl⟩
                  go_wp2_with fail
                  refine (between_is b0.out _).mono ?_; rintro e w' ⟨rfl, rfl⟩
                  go_wp2_with fail
                  refine (between_is b1.out _).mono ?_; rintro e w' ⟨rfl, rfl⟩
                  go_wp2_with fail
                  refine (between_is b2.out _).mono ?_; rintro e w' ⟨rfl, rfl⟩
                  go_wp2_with fail
                  refine (between_is b3.out _).mono ?_; rintro e w' ⟨rfl, rfl⟩
                  go_wp2_with fail
                  refine (between_is b4.out _).mono ?_; rintro e w' ⟨rfl, rfl⟩
                  go_wp2_with fail
                  refine (between_is b5.out _).mono ?_; rintro e w' ⟨rfl, rfl⟩
                  go_wp2_with fail
                  go_ret
                  exact ⟨rfl, below_drewN ((Below.refl _ w).alloc (Nat.le_refl _) _) _⟩
              · have b4 := Lib.hid (bt_f h4)
                have hr := Rr.out (by omega) hpi rfl
                rw [if_neg (by omega), if_pos (by omega)] at hr
                subst hr
                clear h0 h1 h2 h3 h4
                go_enter Try.func39, Try.ntmps39
                go_wp2_with fail
                refine (Hfair.out _).mono ?_; rintro e w' ⟨rfl, n, rfl⟩
                go_wp2_with fail
                refine (between_is b0.out _).mono ?_; rintro e w' ⟨rfl, rfl⟩
                go_wp2_with fail
                refine (between_is b1.out _).mono ?_; rintro e w' ⟨rfl, rfl⟩
                go_wp2_with fail
                refine (between_is b2.out _).mono ?_; rintro e w' ⟨rfl, rfl⟩
                go_wp2_with fail
                refine (between_is b3.out _).mono ?_; rintro e w' ⟨rfl, rfl⟩
                go_wp2_with fail
                refine (between_is b4.out _).mono ?_; rintro e w' ⟨rfl, rfl⟩
                go_wp2_with fail
                go_ret
                exact ⟨rfl, below_drewN ((Below.refl _ w).alloc (Nat.le_refl _) _) _⟩
            · have b3 := Lib.hid (bt_f h3)
              have hr := Rr.out (by omega) hpi rfl
              rw [if_neg (by omega), if_pos (by omega)] at hr
              subst hr
              clear h0 h1 h2 h3
              go_enter Try.func39, Try.ntmps39
              go_wp2_with fail
              refine (Hfair.out _).mono ?_; rintro e w' ⟨rfl, n, rfl⟩
              go_wp2_with fail
              refine (between_is b0.out _).mono ?_; rintro e w' ⟨rfl, rfl⟩
              go_wp2_with fail
              refine (between_is b1.out _).mono ?_; rintro e w' ⟨rfl, rfl⟩
              go_wp2_with fail
              refine (between_is b2.out _).mono ?_; rintro e w' ⟨rfl, rfl⟩
              go_wp2_with fail
              refine (between_is b3.out _).mono ?_; rintro e w' ⟨rfl, rfl⟩
              go_wp2_with fail
              go_ret
              exact ⟨rfl, below_drewN ((Below.refl _ w).alloc (Nat.le_refl _) _) _⟩
          · have b2 := Lib.hid (bt_f h2)
            have hr := Rr.out (by omega) hpi rfl
            rw [if_pos (by omega)] at hr
            subst hr
            clear h0 h1 h2
            go_enter Try.func39, Try.ntmps39
            go_wp2_with fail
            refine (Hfair.out _).mono ?_; rintro e w' ⟨rfl, n, rfl⟩
            go_wp2_with fail
            refine (between_is b0.out _).mono ?_; rintro e w' ⟨rfl, rfl⟩
            go_wp2_with fail
            refine (between_is b1.out _).mono ?_; rintro e w' ⟨rfl, rfl⟩
            go_wp2_with fail
            refine (between_is b2.out _).mono ?_; rintro e w' ⟨rfl, rfl⟩
            go_wp2_with fail
            go_ret
            exact ⟨rfl, below_drewN ((Below.refl _ w).alloc (Nat.le_refl _) _) _⟩
        · have hr := Rf.out (by omega) hpi hfs
          subst hr
          have hfb : (R != 0) = true := by rw [bne_iff_ne]; exact hfs
          clear h0 h1 hfs hpi
          go_enter Try.func39, Try.ntmps39
          go_wp2_with fail
          refine (Hfair.out _).mono ?_; rintro e w' ⟨rfl, n, rfl⟩
          go_wp2_with fail
          refine (between_is b0.out _).mono ?_; rintro e w' ⟨rfl, rfl⟩
          go_wp2_with fail
          refine (between_is b1.out _).mono ?_; rintro e w' ⟨rfl, rfl⟩
          go_wp2_with fail
          go_ret
          exact ⟨rfl, below_drewN ((Below.refl _ w).alloc (Nat.le_refl _) _) _⟩
    · have b1 := Lib.hid (bt_f h1)
      have hr := R2.out (by omega)
      subst hr
      clear h0 h1
      go_enter Try.func39, Try.ntmps39
      go_wp2_with fail
      refine (Hfair.out _).mono ?_; rintro e w' ⟨rfl, n, rfl⟩
      go_wp2_with fail
      refine (between_is b0.out _).mono ?_; rintro e w' ⟨rfl, rfl⟩
      go_wp2_with fail
      refine (between_is b1.out _).mono ?_; rintro e w' ⟨rfl, rfl⟩
      go_wp2_with fail
      go_ret
      exact ⟨rfl, below_drewN ((Below.refl _ w).alloc (Nat.le_refl _) _) _⟩
  · have b0 := Lib.hid (bt_f h0)
    have hr := R2.out (by omega)
    subst hr
    clear h0
    go_enter Try.func39, Try.ntmps39
    go_wp2_with fail
    refine (Hfair.out _).mono ?_; rintro e w' ⟨rfl, n, rfl⟩
    go_wp2_with fail
    refine (between_is b0.out _).mono ?_; rintro e w' ⟨rfl, rfl⟩
    go_wp2_with fail
    go_ret
    exact ⟨rfl, below_drewN ((Below.refl _ w).alloc (Nat.le_refl _) _) _⟩

end Go.Proofs.Ytdoemgccmjddcaa.Cl
