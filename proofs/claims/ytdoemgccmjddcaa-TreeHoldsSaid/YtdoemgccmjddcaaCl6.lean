/- Classes: the document's Same; with a share's bits; the examples; the law ClassTells. -/
import Derived.Test.YtdoemgccmjddcaaCl5
import Derived.Test.YtdoemgccmjddcaaRel
namespace Go.Proofs.Ytdoemgccmjddcaa.Cl
open Go.RowKit Fl Wd St Rel
attribute [local go_sem] run_store_float

set_option maxRecDepth 20000 in
set_option maxHeartbeats 4000000 in
theorem refsame_c1 (a b : Cls) (ha : a.share < 18446744073709551616) (hb : b.share < 18446744073709551616) (hsm : same a.share b.share = true) (w : World) : Calls Try.prog 44 #[a.agg, b.agg] w (Ret1 (.bool (restEq a b)) w) := by
  have hs := same_any a.share b.share ha hb
  obtain ⟨id1, parent1, share1, prio1, quantum1, limit1, weight1, minIdle1, maxIdle1, b1, i1⟩ := a
  obtain ⟨id2, parent2, share2, prio2, quantum2, limit2, weight2, minIdle2, maxIdle2, b2, i2⟩ := b
  unfold Cls.agg
  simp only at *
  rw [hsm] at hs
  have Hs := Lib.hid hs; clear hs hsm
  by_cases h0 : id1 = id2
  · subst h0
    by_cases h1 : parent1 = parent2
    · subst h1
      by_cases h2 : prio1 = prio2
      · subst h2
        by_cases h3 : quantum1 = quantum2
        · subst h3
          by_cases h4 : limit1 = limit2
          · subst h4
            by_cases h5 : weight1 = weight2
            · subst h5
              by_cases h6 : minIdle1 = minIdle2
              · subst h6
                by_cases h7 : maxIdle1 = maxIdle2
                · subst h7
                  skip
                  cases b1 <;> cases b2 <;> cases i1 <;> cases i2
                  all_goals
                    simp [restEq]
                    go_enter Try.func44, Try.ntmps44
                    go_wp2_with fail
                    refine (Hs.out _).mono ?_; rintro e w' ⟨rfl, rfl⟩
                    go_wp2_with fail
                    go_ret
                    exact ⟨rfl, by first | exact (((((Below.refl _ w).alloc (Nat.le_refl _) _).alloc (by simp) _).setCell (by simp) _).setCell (by simp) _) | exact (((Below.refl _ w).alloc (Nat.le_refl _) _).alloc (by simp) _)⟩
                · have e7 : (maxIdle1 == maxIdle2) = false := beq_eq_false_iff_ne.2 h7
                  have n7 : (maxIdle1 != maxIdle2) = true := bne_iff_ne.2 h7
                  have hr : restEq ⟨id1, parent1, share1, prio1, quantum1, limit1, weight1, minIdle1, maxIdle1, b1, i1⟩ ⟨id1, parent1, share2, prio1, quantum1, limit1, weight1, minIdle1, maxIdle2, b2, i2⟩ = false := by simp [restEq, h7]
                  rw [hr]; clear hr h7
                  go_enter Try.func44, Try.ntmps44
                  go_wp2_with fail
                  refine (Hs.out _).mono ?_; rintro e w' ⟨rfl, rfl⟩
                  go_wp2_with fail
                  go_ret
                  exact ⟨rfl, by first | exact (((((Below.refl _ w).alloc (Nat.le_refl _) _).alloc (by simp) _).setCell (by simp) _).setCell (by simp) _) | exact (((Below.refl _ w).alloc (Nat.le_refl _) _).alloc (by simp) _)⟩
              · have e6 : (minIdle1 == minIdle2) = false := beq_eq_false_iff_ne.2 h6
                have n6 : (minIdle1 != minIdle2) = true := bne_iff_ne.2 h6
                have hr : restEq ⟨id1, parent1, share1, prio1, quantum1, limit1, weight1, minIdle1, maxIdle1, b1, i1⟩ ⟨id1, parent1, share2, prio1, quantum1, limit1, weight1, minIdle2, maxIdle2, b2, i2⟩ = false := by simp [restEq, h6]
                rw [hr]; clear hr h6
                go_enter Try.func44, Try.ntmps44
                go_wp2_with fail
                refine (Hs.out _).mono ?_; rintro e w' ⟨rfl, rfl⟩
                go_wp2_with fail
                go_ret
                exact ⟨rfl, by first | exact (((((Below.refl _ w).alloc (Nat.le_refl _) _).alloc (by simp) _).setCell (by simp) _).setCell (by simp) _) | exact (((Below.refl _ w).alloc (Nat.le_refl _) _).alloc (by simp) _)⟩
            · have e5 : (weight1 == weight2) = false := beq_eq_false_iff_ne.2 h5
              have n5 : (weight1 != weight2) = true := bne_iff_ne.2 h5
              have hr : restEq ⟨id1, parent1, share1, prio1, quantum1, limit1, weight1, minIdle1, maxIdle1, b1, i1⟩ ⟨id1, parent1, share2, prio1, quantum1, limit1, weight2, minIdle2, maxIdle2, b2, i2⟩ = false := by simp [restEq, h5]
              rw [hr]; clear hr h5
              go_enter Try.func44, Try.ntmps44
              go_wp2_with fail
              refine (Hs.out _).mono ?_; rintro e w' ⟨rfl, rfl⟩
              go_wp2_with fail
              go_ret
              exact ⟨rfl, by first | exact (((((Below.refl _ w).alloc (Nat.le_refl _) _).alloc (by simp) _).setCell (by simp) _).setCell (by simp) _) | exact (((Below.refl _ w).alloc (Nat.le_refl _) _).alloc (by simp) _)⟩
          · have e4 : (limit1 == limit2) = false := beq_eq_false_iff_ne.2 h4
            have n4 : (limit1 != limit2) = true := bne_iff_ne.2 h4
            have hr : restEq ⟨id1, parent1, share1, prio1, quantum1, limit1, weight1, minIdle1, maxIdle1, b1, i1⟩ ⟨id1, parent1, share2, prio1, quantum1, limit2, weight2, minIdle2, maxIdle2, b2, i2⟩ = false := by simp [restEq, h4]
            rw [hr]; clear hr h4
            go_enter Try.func44, Try.ntmps44
            go_wp2_with fail
            refine (Hs.out _).mono ?_; rintro e w' ⟨rfl, rfl⟩
            go_wp2_with fail
            go_ret
            exact ⟨rfl, by first | exact (((((Below.refl _ w).alloc (Nat.le_refl _) _).alloc (by simp) _).setCell (by simp) _).setCell (by simp) _) | exact (((Below.refl _ w).alloc (Nat.le_refl _) _).alloc (by simp) _)⟩
        · have e3 : (quantum1 == quantum2) = false := beq_eq_false_iff_ne.2 h3
          have n3 : (quantum1 != quantum2) = true := bne_iff_ne.2 h3
          have hr : restEq ⟨id1, parent1, share1, prio1, quantum1, limit1, weight1, minIdle1, maxIdle1, b1, i1⟩ ⟨id1, parent1, share2, prio1, quantum2, limit2, weight2, minIdle2, maxIdle2, b2, i2⟩ = false := by simp [restEq, h3]
          rw [hr]; clear hr h3
          go_enter Try.func44, Try.ntmps44
          go_wp2_with fail
          refine (Hs.out _).mono ?_; rintro e w' ⟨rfl, rfl⟩
          go_wp2_with fail
          go_ret
          exact ⟨rfl, by first | exact (((((Below.refl _ w).alloc (Nat.le_refl _) _).alloc (by simp) _).setCell (by simp) _).setCell (by simp) _) | exact (((Below.refl _ w).alloc (Nat.le_refl _) _).alloc (by simp) _)⟩
      · have e2 : (prio1 == prio2) = false := beq_eq_false_iff_ne.2 h2
        have n2 : (prio1 != prio2) = true := bne_iff_ne.2 h2
        have hr : restEq ⟨id1, parent1, share1, prio1, quantum1, limit1, weight1, minIdle1, maxIdle1, b1, i1⟩ ⟨id1, parent1, share2, prio2, quantum2, limit2, weight2, minIdle2, maxIdle2, b2, i2⟩ = false := by simp [restEq, h2]
        rw [hr]; clear hr h2
        go_enter Try.func44, Try.ntmps44
        go_wp2_with fail
        refine (Hs.out _).mono ?_; rintro e w' ⟨rfl, rfl⟩
        go_wp2_with fail
        go_ret
        exact ⟨rfl, by first | exact (((((Below.refl _ w).alloc (Nat.le_refl _) _).alloc (by simp) _).setCell (by simp) _).setCell (by simp) _) | exact (((Below.refl _ w).alloc (Nat.le_refl _) _).alloc (by simp) _)⟩
    · have e1 : (parent1 == parent2) = false := beq_eq_false_iff_ne.2 h1
      have n1 : (parent1 != parent2) = true := bne_iff_ne.2 h1
      have hr : restEq ⟨id1, parent1, share1, prio1, quantum1, limit1, weight1, minIdle1, maxIdle1, b1, i1⟩ ⟨id1, parent2, share2, prio2, quantum2, limit2, weight2, minIdle2, maxIdle2, b2, i2⟩ = false := by simp [restEq, h1]
      rw [hr]; clear hr h1
      go_enter Try.func44, Try.ntmps44
      go_wp2_with fail
      go_ret
      exact ⟨rfl, by first | exact (((((Below.refl _ w).alloc (Nat.le_refl _) _).alloc (by simp) _).setCell (by simp) _).setCell (by simp) _) | exact (((Below.refl _ w).alloc (Nat.le_refl _) _).alloc (by simp) _)⟩
  · have e0 : (id1 == id2) = false := beq_eq_false_iff_ne.2 h0
    have n0 : (id1 != id2) = true := bne_iff_ne.2 h0
    have hr : restEq ⟨id1, parent1, share1, prio1, quantum1, limit1, weight1, minIdle1, maxIdle1, b1, i1⟩ ⟨id2, parent2, share2, prio2, quantum2, limit2, weight2, minIdle2, maxIdle2, b2, i2⟩ = false := by simp [restEq, h0]
    rw [hr]; clear hr h0
    go_enter Try.func44, Try.ntmps44
    go_wp2_with fail
    go_ret
    exact ⟨rfl, by first | exact (((((Below.refl _ w).alloc (Nat.le_refl _) _).alloc (by simp) _).setCell (by simp) _).setCell (by simp) _) | exact (((Below.refl _ w).alloc (Nat.le_refl _) _).alloc (by simp) _)⟩

set_option maxRecDepth 20000 in
set_option maxHeartbeats 4000000 in
theorem refsame_c (a b : Cls) (ha : a.share < 18446744073709551616) (hb : b.share < 18446744073709551616) (w : World) : Calls Try.prog 44 #[a.agg, b.agg] w (Ret1 (.bool (sameS a b)) w) := by
  have hs := same_any a.share b.share ha hb
  have he : sameS a b = (same a.share b.share && restEq a b) := rfl
  rw [he]; clear he
  cases hsm : same a.share b.share with
  | false =>
    rw [hsm] at hs
    have Hs := Lib.hid hs; clear hs hsm
    rw [Bool.false_and]
    obtain ⟨id1, parent1, share1, prio1, quantum1, limit1, weight1, minIdle1, maxIdle1, b1, i1⟩ := a
    obtain ⟨id2, parent2, share2, prio2, quantum2, limit2, weight2, minIdle2, maxIdle2, b2, i2⟩ := b
    simp only at *
    unfold Cls.agg
    by_cases h0 : id1 = id2
    · subst h0
      by_cases h1 : parent1 = parent2
      · subst h1
        go_enter Try.func44, Try.ntmps44
        go_wp2_with fail
        refine (Hs.out _).mono ?_; rintro e w' ⟨rfl, rfl⟩
        go_wp2_with fail
        go_ret
        exact ⟨rfl, (((Below.refl _ w).alloc (Nat.le_refl _) _).alloc (by simp) _)⟩
      · have n1 : (parent1 != parent2) = true := bne_iff_ne.2 h1
        clear h1
        go_enter Try.func44, Try.ntmps44
        go_wp2_with fail
        go_ret
        exact ⟨rfl, (((Below.refl _ w).alloc (Nat.le_refl _) _).alloc (by simp) _)⟩
    · have n1 : (id1 != id2) = true := bne_iff_ne.2 h0
      clear h0
      go_enter Try.func44, Try.ntmps44
      go_wp2_with fail
      go_ret
      exact ⟨rfl, (((Below.refl _ w).alloc (Nat.le_refl _) _).alloc (by simp) _)⟩
  | true => exact refsame_c1 a b ha hb hsm w

end Go.Proofs.Ytdoemgccmjddcaa.Cl
