/- inet.Bits, inet.Right, filter.prefix, filter.span, the questions' functions. -/
import Derived.Test.YtpchhfhmopmagaaGreatProg
import Derived.Test.YtpchhfhmopmagaaGreatFi0
import Derived.Test.YtpchhfhmopmagaaGreatRel
import Derived.Test.YtpchhfhmopmagaaGreatLxM
set_option linter.unusedVariables false
set_option linter.unusedSimpArgs false
namespace Go.Proofs.YtpchhfhmopmagaaGreat.Fi
open Go.RowKit Wd

def adr (hi lo : Nat) : Value := .agg #[.int .u64 hi, .int .u64 lo]
theorem bits_c (v : Int) (w : World) : Calls Tryz.prog 249 #[.int .i64 v] w fun e w' => e = .returned (.int .i64 (bitsV v)) ∧ w = w' := by
  unfold bitsV
  by_cases h4 : v = 4
  · subst h4
    go_enter Tryz.func249, Tryz.ntmps249
    go_wp2
    go_ret
    exact ⟨rfl, rfl⟩
  · by_cases h6 : v = 6
    · subst h6
      go_enter Tryz.func249, Tryz.ntmps249
      go_wp2
      go_ret
      exact ⟨rfl, rfl⟩
    · have b4 : (v == 4) = false := by rw [beq_eq_false_iff_ne]; exact h4
      have b6 : (v == 6) = false := by rw [beq_eq_false_iff_ne]; exact h6
      rw [if_neg h4, if_neg h6]
      clear h4 h6
      go_enter Tryz.func249, Tryz.ntmps249
      go_wp2
      go_ret
      exact ⟨rfl, rfl⟩
theorem half_word (lo : Nat) : ((lo : Int) / 4294967296 == 0) = decide (lo < 4294967296) := by
  rw [Bool.eq_iff_iff, beq_iff_eq, decide_eq_true_eq]; omega
theorem new_addr (w : World) (hi lo : Nat) : Below w.heap.size w (w.alloc (.cells #[.int .u64 hi, .int .u64 lo] 94)) := (Below.refl _ w).alloc (Nat.le_refl _) _
set_option maxHeartbeats 1000000 in
theorem iright_c (v : Int) (hi lo : Nat) (_hh : InU hi) (hl : InU lo) (w : World) : Calls Tryz.prog 273 #[.int .i64 v, adr hi lo] w fun e w' => e = .returned (.bool (addrR v hi lo)) ∧ Below w.heap.size w w' := by
  have HB := Lib.hid (new_addr w hi lo)
  have HL := Lib.hid (half_word lo)
  unfold adr addrR
  by_cases h6 : v = 6
  · subst h6
    go_enter Tryz.func273, Tryz.ntmps273
    go_wp2
    go_ret
    exact ⟨rfl, HB.out⟩
  · have b6 : (v == 6) = false := by rw [beq_eq_false_iff_ne]; exact h6
    rw [decide_eq_false h6]
    by_cases h4 : v = 4
    · subst h4
      clear b6 h6
      by_cases h0 : hi = 0
      · subst h0
        go_enter Tryz.func273, Tryz.ntmps273
        go_wp2
        go_ret
        exact ⟨by rw [HL.out]; simp, HB.out⟩
      · have h0z : ((hi : Int) == 0) = false := by rw [beq_eq_false_iff_ne]; omega
        rw [decide_eq_false h0]
        clear h0
        go_enter Tryz.func273, Tryz.ntmps273
        go_wp2
        go_ret
        exact ⟨rfl, HB.out⟩
    · have b4 : (v == 4) = false := by rw [beq_eq_false_iff_ne]; exact h4
      rw [decide_eq_false h4]
      clear h4 h6
      go_enter Tryz.func273, Tryz.ntmps273
      go_wp2
      go_ret
      exact ⟨rfl, HB.out⟩
set_option maxHeartbeats 2000000 in
theorem prefix_c (v : Int) (hi lo : Nat) (n : Int) (hh : InU hi) (hl : InU lo) (w : World) : Calls Tryz.prog 251 #[.int .i64 v, adr hi lo, .int .i64 n] w fun e w' => e = .returned (.bool (prefixR v hi lo n)) ∧ Below w.heap.size w w' := by
  have HB := Lib.hid (new_addr w hi lo)
  have cB := Lib.hid (bits_c v)
  have cR := Lib.hid (iright_c v hi lo hh hl)
  unfold prefixR
  unfold adr at cR ⊢
  clear hh hl
  by_cases h0 : 0 ≤ n
  · rw [decide_eq_true h0]
    have n0 : ¬ n < 0 := by omega
    by_cases h1 : n ≤ bitsV v
    · rw [decide_eq_true h1]
      have n1 : ¬ bitsV v < n := by omega
      generalize bitsV v = bv at *
      clear h0 h1
      by_cases hv : v = 0
      · subst hv
        by_cases hh : hi = 0
        · subst hh
          by_cases hl : lo = 0
          · subst hl
            go_enter Tryz.func251, Tryz.ntmps251
            go_wp2_with (go_at_call 249; (with_reducible refine (cB.out _).mono ?_); rintro e w' ⟨rfl, rfl⟩)
            go_ret
            exact ⟨rfl, HB.out⟩
          · have hlz : ((lo : Int) == 0) = false := by rw [beq_eq_false_iff_ne]; omega
            rw [decide_eq_false hl]
            clear hl
            go_enter Tryz.func251, Tryz.ntmps251
            go_wp2_with (go_at_call 249; (with_reducible refine (cB.out _).mono ?_); rintro e w' ⟨rfl, rfl⟩)
            go_ret
            exact ⟨rfl, HB.out⟩
        · have hhz : ((hi : Int) == 0) = false := by rw [beq_eq_false_iff_ne]; omega
          rw [decide_eq_false hh]
          clear hh
          go_enter Tryz.func251, Tryz.ntmps251
          go_wp2_with (go_at_call 249; (with_reducible refine (cB.out _).mono ?_); rintro e w' ⟨rfl, rfl⟩)
          go_ret
          exact ⟨rfl, HB.out⟩
      · have v0 : (v == 0) = false := by rw [beq_eq_false_iff_ne]; exact hv
        have v1 : (v != 0) = true := by rw [bne_iff_ne]; exact hv
        rw [decide_eq_false hv, decide_eq_true (show v ≠ 0 from hv)]
        clear hv
        generalize addrR v hi lo = ar at *
        go_enter Tryz.func251, Tryz.ntmps251
        go_wp2_with (first
          | (go_at_call 249; (with_reducible refine (cB.out _).mono ?_); rintro e w' ⟨rfl, rfl⟩)
          | (go_at_call 273; (with_reducible refine (cR.out _).mono ?_); rintro e w2 ⟨rfl, hb2⟩; have HB2 := Lib.hid hb2; clear hb2))
        go_ret
        exact ⟨by simp, HB.out.trans (HB2.out.mono (by simp))⟩
    · rw [decide_eq_false h1]
      have n1 : bitsV v < n := by omega
      generalize bitsV v = bv at *
      clear h0 h1
      go_enter Tryz.func251, Tryz.ntmps251
      go_wp2_with (go_at_call 249; (with_reducible refine (cB.out _).mono ?_); rintro e w' ⟨rfl, rfl⟩)
      go_ret
      exact ⟨by simp, HB.out⟩
  · rw [decide_eq_false h0]
    have n0 : n < 0 := by omega
    clear h0
    go_enter Tryz.func251, Tryz.ntmps251
    go_wp2
    go_ret
    exact ⟨by simp, HB.out⟩
theorem span_c (a b : Int) (w : World) : Calls Tryz.prog 254 #[.agg #[.int .i64 a, .int .i64 b]] w fun e w' => e = .returned (.bool (spanR a b)) ∧ Below w.heap.size w w' := by
  have hb : Below w.heap.size w (w.alloc (.cells #[.int .i64 a, .int .i64 b] 96)) := (Below.refl _ w).alloc (Nat.le_refl _) _
  have HB := Lib.hid hb
  clear hb
  unfold spanR
  by_cases h0 : 0 ≤ a
  · rw [decide_eq_true h0]
    by_cases h1 : a ≤ b
    · have d1 : decide (a ≤ b) = true := decide_eq_true h1
      go_enter Tryz.func254, Tryz.ntmps254
      go_wp2
      go_ret
      exact ⟨by simp [d1], HB.out⟩
    · have d1 : decide (a ≤ b) = false := decide_eq_false h1
      clear h1
      go_enter Tryz.func254, Tryz.ntmps254
      go_wp2
      go_ret
      exact ⟨by simp [d1], HB.out⟩
  · have d0 : decide (0 ≤ a) = false := decide_eq_false h0
    clear h0
    go_enter Tryz.func254, Tryz.ntmps254
    go_wp2
    go_ret
    exact ⟨by simp [d0], HB.out⟩
end Go.Proofs.YtpchhfhmopmagaaGreat.Fi
