/- Classes: Same, the program's and the document's. -/
import Derived.Test.YtdoemgccmjddcaaCl4
namespace Go.Proofs.Ytdoemgccmjddcaa.Cl
open Go.RowKit Fl Wd St
attribute [local go_sem] run_store_float

@[go_sem] theorem run_equalIn_f64 (d a b : Nat) (w : World) : (Op.equalIn (d + 1) 45 (.float .f64 a) (.float .f64 b)).run Try.prog w = .ok (feq a b) w := by
  simp [Op.equalIn, run_underlying Try.underlying45, Op.floatEq, order_eq64]
theorem sharesame_any (a b : Nat) (w : World) : Calls Try.prog 119 #[.float .f64 a, .float .f64 b] w fun e w' => e = .returned (.bool (same a b)) ∧ w = w' := by
  cases hna : nan a with
  | true =>
    cases hnb : nan b with
    | true =>
      have e : same a b = true := by simp [same, cf_nan hna, cf_nan hnb]
      rw [e]; clear e
      go_enter Try.func119, Try.ntmps119
      go_wp2_with fail
      refine (isnan_is _ true hna _).mono ?_; rintro e w' ⟨rfl, rfl⟩
      go_wp2_with fail
      refine (isnan_is _ true hnb _).mono ?_; rintro e w' ⟨rfl, rfl⟩
      go_wp2_with fail
      go_ret
      exact ⟨rfl, rfl⟩
    | false =>
      have e : same a b = false := by
        simp only [same, cf_nan hna, cf_num hnb, beq_eq_false_iff_ne]
        intro h; rw [← h, nan_nanC] at hnb; cases hnb
      have hne : ((a : Int) == (b : Int)) = false := by
        rw [beq_eq_false_iff_ne]; intro h
        have : a = b := by omega
        subst this; rw [hna] at hnb; cases hnb
      rw [e]; clear e
      go_enter Try.func119, Try.ntmps119
      go_wp2_with fail
      refine (isnan_is _ true hna _).mono ?_; rintro e w' ⟨rfl, rfl⟩
      go_wp2_with fail
      refine (isnan_is _ false hnb _).mono ?_; rintro e w' ⟨rfl, rfl⟩
      go_wp2_with fail
      go_ret
      exact ⟨rfl, rfl⟩
  | false =>
    have e : ((a : Int) == (b : Int)) = same a b := by
      unfold same
      rw [cf_num hna, Bool.eq_iff_iff, beq_iff_eq, beq_iff_eq]
      constructor
      · intro h
        have : a = b := by omega
        subst this; exact (cf_num hna).symm
      · intro h
        cases hnb : nan b with
        | true => rw [cf_nan hnb] at h; rw [h, nan_nanC] at hna; cases hna
        | false => rw [cf_num hnb] at h; omega
    have E := Lib.hid e; clear e
    go_enter Try.func119, Try.ntmps119
    go_wp2_with fail
    refine (isnan_is _ false hna _).mono ?_; rintro e w' ⟨rfl, rfl⟩
    go_wp2_with fail
    go_ret
    exact ⟨by rw [← E.out]; rfl, rfl⟩

/-- all but the share -/
def restEq (a b : Cls) : Bool := a.id == b.id && a.parent == b.parent && a.prio == b.prio && a.quantum == b.quantum && a.limit == b.limit && a.weight == b.weight && a.minIdle == b.minIdle && a.maxIdle == b.maxIdle && a.bounded == b.bounded && a.isolated == b.isolated
def sameS (a b : Cls) : Bool := same a.share b.share && restEq a b

set_option maxRecDepth 20000 in
set_option maxHeartbeats 4000000 in
theorem same_c1 (a b : Cls) (hsm : same a.share b.share = true) (w : World) : Calls Try.prog 43 #[a.agg, b.agg] w (Ret1 (.bool (restEq a b)) w) := by
  have hs := sharesame_any a.share b.share
  obtain ⟨id1, parent1, share1, prio1, quantum1, limit1, weight1, minIdle1, maxIdle1, b1, i1⟩ := a
  obtain ⟨id2, parent2, share2, prio2, quantum2, limit2, weight2, minIdle2, maxIdle2, b2, i2⟩ := b
  unfold Cls.agg
  simp only at *
  rw [hsm] at hs
  have hf0 : feq 0 0 = true := by decide +kernel
  have Hs := Lib.hid hs; clear hs hsm
  by_cases h0 : id1 = id2
  · subst h0
    by_cases h1 : parent1 = parent2
    · subst h1
      by_cases h2 : prio1 = prio2
      · subst h2
        by_cases h3 : quantum1 = quantum2
        · subst h3
          by_cases h4 : limit1 = limit2
          · subst h4
            by_cases h5 : weight1 = weight2
            · subst h5
              by_cases h6 : minIdle1 = minIdle2
              · subst h6
                by_cases h7 : maxIdle1 = maxIdle2
                · subst h7
                  skip
                  cases b1 <;> cases b2 <;> cases i1 <;> cases i2
                  all_goals
                    simp [restEq]
                    go_enter Try.func43, Try.ntmps43
                    go_wp2_with fail
                    refine (Hs.out _).mono ?_; rintro e w' ⟨rfl, rfl⟩
                    go_wp2_with fail
                    go_ret
                    exact ⟨rfl, by first | exact (((((Below.refl _ w).alloc (Nat.le_refl _) _).alloc (by simp) _).setCell (by simp) _).setCell (by simp) _) | exact (((Below.refl _ w).alloc (Nat.le_refl _) _).alloc (by simp) _)⟩
                · have e7 : (maxIdle1 == maxIdle2) = false := beq_eq_false_iff_ne.2 h7
                  have n7 : (maxIdle1 != maxIdle2) = true := bne_iff_ne.2 h7
                  have hr : restEq ⟨id1, parent1, share1, prio1, quantum1, limit1, weight1, minIdle1, maxIdle1, b1, i1⟩ ⟨id1, parent1, share2, prio1, quantum1, limit1, weight1, minIdle1, maxIdle2, b2, i2⟩ = false := by simp [restEq, h7]
                  rw [hr]; clear hr h7
                  go_enter Try.func43, Try.ntmps43
                  go_wp2_with fail
                  refine (Hs.out _).mono ?_; rintro e w' ⟨rfl, rfl⟩
                  go_wp2_with fail
                  go_ret
                  exact ⟨rfl, by first | exact (((((Below.refl _ w).alloc (Nat.le_refl _) _).alloc (by simp) _).setCell (by simp) _).setCell (by simp) _) | exact (((Below.refl _ w).alloc (Nat.le_refl _) _).alloc (by simp) _)⟩
              · have e6 : (minIdle1 == minIdle2) = false := beq_eq_false_iff_ne.2 h6
                have n6 : (minIdle1 != minIdle2) = true := bne_iff_ne.2 h6
                have hr : restEq ⟨id1, parent1, share1, prio1, quantum1, limit1, weight1, minIdle1, maxIdle1, b1, i1⟩ ⟨id1, parent1, share2, prio1, quantum1, limit1, weight1, minIdle2, maxIdle2, b2, i2⟩ = false := by simp [restEq, h6]
                rw [hr]; clear hr h6
                go_enter Try.func43, Try.ntmps43
                go_wp2_with fail
                refine (Hs.out _).mono ?_; rintro e w' ⟨rfl, rfl⟩
                go_wp2_with fail
                go_ret
                exact ⟨rfl, by first | exact (((((Below.refl _ w).alloc (Nat.le_refl _) _).alloc (by simp) _).setCell (by simp) _).setCell (by simp) _) | exact (((Below.refl _ w).alloc (Nat.le_refl _) _).alloc (by simp) _)⟩
            · have e5 : (weight1 == weight2) = false := beq_eq_false_iff_ne.2 h5
              have n5 : (weight1 != weight2) = true := bne_iff_ne.2 h5
              have hr : restEq ⟨id1, parent1, share1, prio1, quantum1, limit1, weight1, minIdle1, maxIdle1, b1, i1⟩ ⟨id1, parent1, share2, prio1, quantum1, limit1, weight2, minIdle2, maxIdle2, b2, i2⟩ = false := by simp [restEq, h5]
              rw [hr]; clear hr h5
              go_enter Try.func43, Try.ntmps43
              go_wp2_with fail
              refine (Hs.out _).mono ?_; rintro e w' ⟨rfl, rfl⟩
              go_wp2_with fail
              go_ret
              exact ⟨rfl, by first | exact (((((Below.refl _ w).alloc (Nat.le_refl _) _).alloc (by simp) _).setCell (by simp) _).setCell (by simp) _) | exact (((Below.refl _ w).alloc (Nat.le_refl _) _).alloc (by simp) _)⟩
          · have e4 : (limit1 == limit2) = false := beq_eq_false_iff_ne.2 h4
            have n4 : (limit1 != limit2) = true := bne_iff_ne.2 h4
            have hr : restEq ⟨id1, parent1, share1, prio1, quantum1, limit1, weight1, minIdle1, maxIdle1, b1, i1⟩ ⟨id1, parent1, share2, prio1, quantum1, limit2, weight2, minIdle2, maxIdle2, b2, i2⟩ = false := by simp [restEq, h4]
            rw [hr]; clear hr h4
            go_enter Try.func43, Try.ntmps43
            go_wp2_with fail
            refine (Hs.out _).mono ?_; rintro e w' ⟨rfl, rfl⟩
            go_wp2_with fail
            go_ret
            exact ⟨rfl, by first | exact (((((Below.refl _ w).alloc (Nat.le_refl _) _).alloc (by simp) _).setCell (by simp) _).setCell (by simp) _) | exact (((Below.refl _ w).alloc (Nat.le_refl _) _).alloc (by simp) _)⟩
        · have e3 : (quantum1 == quantum2) = false := beq_eq_false_iff_ne.2 h3
          have n3 : (quantum1 != quantum2) = true := bne_iff_ne.2 h3
          have hr : restEq ⟨id1, parent1, share1, prio1, quantum1, limit1, weight1, minIdle1, maxIdle1, b1, i1⟩ ⟨id1, parent1, share2, prio1, quantum2, limit2, weight2, minIdle2, maxIdle2, b2, i2⟩ = false := by simp [restEq, h3]
          rw [hr]; clear hr h3
          go_enter Try.func43, Try.ntmps43
          go_wp2_with fail
          refine (Hs.out _).mono ?_; rintro e w' ⟨rfl, rfl⟩
          go_wp2_with fail
          go_ret
          exact ⟨rfl, by first | exact (((((Below.refl _ w).alloc (Nat.le_refl _) _).alloc (by simp) _).setCell (by simp) _).setCell (by simp) _) | exact (((Below.refl _ w).alloc (Nat.le_refl _) _).alloc (by simp) _)⟩
      · have e2 : (prio1 == prio2) = false := beq_eq_false_iff_ne.2 h2
        have n2 : (prio1 != prio2) = true := bne_iff_ne.2 h2
        have hr : restEq ⟨id1, parent1, share1, prio1, quantum1, limit1, weight1, minIdle1, maxIdle1, b1, i1⟩ ⟨id1, parent1, share2, prio2, quantum2, limit2, weight2, minIdle2, maxIdle2, b2, i2⟩ = false := by simp [restEq, h2]
        rw [hr]; clear hr h2
        go_enter Try.func43, Try.ntmps43
        go_wp2_with fail
        refine (Hs.out _).mono ?_; rintro e w' ⟨rfl, rfl⟩
        go_wp2_with fail
        go_ret
        exact ⟨rfl, by first | exact (((((Below.refl _ w).alloc (Nat.le_refl _) _).alloc (by simp) _).setCell (by simp) _).setCell (by simp) _) | exact (((Below.refl _ w).alloc (Nat.le_refl _) _).alloc (by simp) _)⟩
    · have e1 : (parent1 == parent2) = false := beq_eq_false_iff_ne.2 h1
      have n1 : (parent1 != parent2) = true := bne_iff_ne.2 h1
      have hr : restEq ⟨id1, parent1, share1, prio1, quantum1, limit1, weight1, minIdle1, maxIdle1, b1, i1⟩ ⟨id1, parent2, share2, prio2, quantum2, limit2, weight2, minIdle2, maxIdle2, b2, i2⟩ = false := by simp [restEq, h1]
      rw [hr]; clear hr h1
      go_enter Try.func43, Try.ntmps43
      go_wp2_with fail
      refine (Hs.out _).mono ?_; rintro e w' ⟨rfl, rfl⟩
      go_wp2_with fail
      go_ret
      exact ⟨rfl, by first | exact (((((Below.refl _ w).alloc (Nat.le_refl _) _).alloc (by simp) _).setCell (by simp) _).setCell (by simp) _) | exact (((Below.refl _ w).alloc (Nat.le_refl _) _).alloc (by simp) _)⟩
  · have e0 : (id1 == id2) = false := beq_eq_false_iff_ne.2 h0
    have n0 : (id1 != id2) = true := bne_iff_ne.2 h0
    have hr : restEq ⟨id1, parent1, share1, prio1, quantum1, limit1, weight1, minIdle1, maxIdle1, b1, i1⟩ ⟨id2, parent2, share2, prio2, quantum2, limit2, weight2, minIdle2, maxIdle2, b2, i2⟩ = false := by simp [restEq, h0]
    rw [hr]; clear hr h0
    go_enter Try.func43, Try.ntmps43
    go_wp2_with fail
    refine (Hs.out _).mono ?_; rintro e w' ⟨rfl, rfl⟩
    go_wp2_with fail
    go_ret
    exact ⟨rfl, by first | exact (((((Below.refl _ w).alloc (Nat.le_refl _) _).alloc (by simp) _).setCell (by simp) _).setCell (by simp) _) | exact (((Below.refl _ w).alloc (Nat.le_refl _) _).alloc (by simp) _)⟩

theorem same_c (a b : Cls) (w : World) : Calls Try.prog 43 #[a.agg, b.agg] w (Ret1 (.bool (sameS a b)) w) := by
  have hs := sharesame_any a.share b.share
  have he : sameS a b = (same a.share b.share && restEq a b) := rfl
  rw [he]; clear he
  cases hsm : same a.share b.share with
  | false =>
    rw [hsm] at hs
    have Hs := Lib.hid hs; clear hs hsm
    unfold Cls.agg
    go_enter Try.func43, Try.ntmps43
    go_wp2_with fail
    refine (Hs.out _).mono ?_; rintro e w' ⟨rfl, rfl⟩
    go_wp2_with fail
    go_ret
    exact ⟨rfl, (((Below.refl _ w).alloc (Nat.le_refl _) _).alloc (by simp) _)⟩
  | true => exact same_c1 a b hsm w

end Go.Proofs.Ytdoemgccmjddcaa.Cl
