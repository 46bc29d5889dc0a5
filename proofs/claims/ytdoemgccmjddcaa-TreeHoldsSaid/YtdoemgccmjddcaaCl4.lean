/- Classes: the document's Right; Units; Same; Borrows. -/
import Derived.Test.YtdoemgccmjddcaaCl3
namespace Go.Proofs.Ytdoemgccmjddcaa.Cl
open Go.RowKit Fl Wd St

set_option maxRecDepth 20000 in
set_option maxHeartbeats 4000000 in
theorem refright_any (c : Cls) (hs : c.share < 18446744073709551616) (w : World) : Calls Try.prog 40 #[c.agg] w (Ret1 (.int .i64 (rightS c)) w) := by
  have hu := refunits_any c.share hs
  have he := units_err c.share
  have hf : fairS c.share = if (unitsS c.share).2 = 21 then 21 else if (unitsS c.share).2 ≠ 0 ∨ (unitsS c.share).1 = 0 then 13 else 0 := rfl
  have r2 := @right_2 c; have r11 := @right_11 c; have rf := @right_fair c; have rr := @right_rest c
  obtain ⟨id, parent, share, prio, quantum, limit, weight, minIdle, maxIdle, bounded, isolated⟩ := c
  unfold Cls.agg
  simp only at *
  generalize rightS _ = R at *
  generalize fairS share = fs at *
  generalize unitsS share = u at *
  obtain ⟨a, b⟩ := u
  simp only at he hf
  have Hu := Lib.hid hu; have R2 := Lib.hid r2; have R11 := Lib.hid r11; have Rf := Lib.hid rf; have Rr := Lib.hid rr; have Hfs := Lib.hid hf
  clear hu r2 r11 rf rr hf
  by_cases l0 : id < 1
  · have := l0
    have hr := R2.out (by omega)
    subst hr
    go_enter Try.func40, Try.ntmps40
    go_wp2_with fail
    go_ret
    exact ⟨rfl, by first | exact below_drewN ((Below.refl _ w).alloc (Nat.le_refl _) _) _ | exact (Below.refl _ w).alloc (Nat.le_refl _) _⟩
  · by_cases g0 : 65535 < id
    · have := g0
      have hr := R2.out (by omega)
      subst hr
      go_enter Try.func40, Try.ntmps40
      go_wp2_with fail
      go_ret
      exact ⟨rfl, by first | exact below_drewN ((Below.refl _ w).alloc (Nat.le_refl _) _) _ | exact (Below.refl _ w).alloc (Nat.le_refl _) _⟩
    · skip
      by_cases l1 : parent < 0
      · have := l1
        have hr := R2.out (by omega)
        subst hr
        go_enter Try.func40, Try.ntmps40
        go_wp2_with fail
        go_ret
        exact ⟨rfl, by first | exact below_drewN ((Below.refl _ w).alloc (Nat.le_refl _) _) _ | exact (Below.refl _ w).alloc (Nat.le_refl _) _⟩
      · by_cases g1 : 65535 < parent
        · have := g1
          have hr := R2.out (by omega)
          subst hr
          go_enter Try.func40, Try.ntmps40
          go_wp2_with fail
          go_ret
          exact ⟨rfl, by first | exact below_drewN ((Below.refl _ w).alloc (Nat.le_refl _) _) _ | exact (Below.refl _ w).alloc (Nat.le_refl _) _⟩
        · skip
          by_cases hpi : parent = id
          · have hr := R11.out (by omega) hpi
            subst hpi; subst hr
            go_enter Try.func40, Try.ntmps40
            go_wp2_with fail
            go_ret
            exact ⟨rfl, by first | exact below_drewN ((Below.refl _ w).alloc (Nat.le_refl _) _) _ | exact (Below.refl _ w).alloc (Nat.le_refl _) _⟩
          · have hpb : (id == parent) = false := beq_eq_false_iff_ne.2 (fun h => hpi h.symm)
            rcases he with rfl | rfl | rfl
            · have hr := Rf.out (by omega) hpi (by rw [Hfs.out]; simp)
              rw [Hfs.out] at hr; simp at hr; subst hr
              go_enter Try.func40, Try.ntmps40
              go_wp2_with fail
              refine (Hu.out _).mono ?_; rintro e w' ⟨rfl, n, rfl⟩
              go_wp2_with fail
              go_ret
              exact ⟨rfl, by first | exact below_drewN ((Below.refl _ w).alloc (Nat.le_refl _) _) _ | exact (Below.refl _ w).alloc (Nat.le_refl _) _⟩
            · have hr := Rf.out (by omega) hpi (by rw [Hfs.out]; simp)
              rw [Hfs.out] at hr; simp at hr; subst hr
              go_enter Try.func40, Try.ntmps40
              go_wp2_with fail
              refine (Hu.out _).mono ?_; rintro e w' ⟨rfl, n, rfl⟩
              go_wp2_with fail
              go_ret
              exact ⟨rfl, by first | exact below_drewN ((Below.refl _ w).alloc (Nat.le_refl _) _) _ | exact (Below.refl _ w).alloc (Nat.le_refl _) _⟩
            · by_cases ha : a = 0
              · subst ha
                have hr := Rf.out (by omega) hpi (by rw [Hfs.out]; simp)
                rw [Hfs.out] at hr; simp at hr; subst hr
                go_enter Try.func40, Try.ntmps40
                go_wp2_with fail
                refine (Hu.out _).mono ?_; rintro e w' ⟨rfl, n, rfl⟩
                go_wp2_with fail
                go_ret
                exact ⟨rfl, by first | exact below_drewN ((Below.refl _ w).alloc (Nat.le_refl _) _) _ | exact (Below.refl _ w).alloc (Nat.le_refl _) _⟩
              · have hfs : fs = 0 := by rw [Hfs.out]; simp [ha]
                have ha1 : 1 ≤ (a : Int) := by omega
                by_cases l2 : prio < 0
                · have := l2
                  have hr := Rr.out (by omega) hpi hfs
                  rw [if_pos (by omega)] at hr
                  clear hfs
                  subst hr
                  go_enter Try.func40, Try.ntmps40
                  go_wp2_with fail
                  refine (Hu.out _).mono ?_; rintro e w' ⟨rfl, n, rfl⟩
                  go_wp2_with fail
                  go_ret
                  exact ⟨rfl, by first | exact below_drewN ((Below.refl _ w).alloc (Nat.le_refl _) _) _ | exact (Below.refl _ w).alloc (Nat.le_refl _) _⟩
                · by_cases g2 : 7 < prio
                  · have := g2
                    have hr := Rr.out (by omega) hpi hfs
                    rw [if_pos (by omega)] at hr
                    clear hfs
                    subst hr
                    go_enter Try.func40, Try.ntmps40
                    go_wp2_with fail
                    refine (Hu.out _).mono ?_; rintro e w' ⟨rfl, n, rfl⟩
                    go_wp2_with fail
                    go_ret
                    exact ⟨rfl, by first | exact below_drewN ((Below.refl _ w).alloc (Nat.le_refl _) _) _ | exact (Below.refl _ w).alloc (Nat.le_refl _) _⟩
                  · skip
                    by_cases l3 : quantum < 1
                    · have := l3
                      have hr := Rr.out (by omega) hpi hfs
                      rw [if_neg (by omega), if_pos (by omega)] at hr
                      clear hfs
                      subst hr
                      go_enter Try.func40, Try.ntmps40
                      go_wp2_with fail
                      refine (Hu.out _).mono ?_; rintro e w' ⟨rfl, n, rfl⟩
                      go_wp2_with fail
                      go_ret
                      exact ⟨rfl, by first | exact below_drewN ((Below.refl _ w).alloc (Nat.le_refl _) _) _ | exact (Below.refl _ w).alloc (Nat.le_refl _) _⟩
                    · by_cases g3 : 65536 < quantum
                      · have := g3
                        have hr := Rr.out (by omega) hpi hfs
                        rw [if_neg (by omega), if_pos (by omega)] at hr
                        clear hfs
                        subst hr
                        go_enter Try.func40, Try.ntmps40
                        go_wp2_with fail
                        refine (Hu.out _).mono ?_; rintro e w' ⟨rfl, n, rfl⟩
                        go_wp2_with fail
                        go_ret
                        exact ⟨rfl, by first | exact below_drewN ((Below.refl _ w).alloc (Nat.le_refl _) _) _ | exact (Below.refl _ w).alloc (Nat.le_refl _) _⟩
                      · skip
                        by_cases l4 : limit < 1
                        · have := l4
                          have hr := Rr.out (by omega) hpi hfs
                          rw [if_neg (by omega), if_pos (by omega)] at hr
                          clear hfs
                          subst hr
                          go_enter Try.func40, Try.ntmps40
                          go_wp2_with fail
                          refine (Hu.out _).mono ?_; rintro e w' ⟨rfl, n, rfl⟩
                          go_wp2_with fail
                          go_ret
                          exact ⟨rfl, by first | exact below_drewN ((Below.refl _ w).alloc (Nat.le_refl _) _) _ | exact (Below.refl _ w).alloc (Nat.le_refl _) _⟩
                        · by_cases g4 : 1024 < limit
                          · have := g4
                            have hr := Rr.out (by omega) hpi hfs
                            rw [if_neg (by omega), if_pos (by omega)] at hr
                            clear hfs
                            subst hr
                            go_enter Try.func40, Try.ntmps40
                            go_wp2_with fail
                            refine (Hu.out _).mono ?_; rintro e w' ⟨rfl, n, rfl⟩
                            go_wp2_with fail
                            go_ret
                            exact ⟨rfl, by first | exact below_drewN ((Below.refl _ w).alloc (Nat.le_refl _) _) _ | exact (Below.refl _ w).alloc (Nat.le_refl _) _⟩
                          · skip
                            by_cases l5 : weight < 0
                            · have := l5
                              have hr := Rr.out (by omega) hpi hfs
                              rw [if_neg (by omega), if_neg (by omega), if_pos (by omega)] at hr
                              clear hfs
                              subst hr
                              go_enter Try.func40, Try.ntmps40
                              go_wp2_with fail
                              refine (Hu.out _).mono ?_; rintro e w' ⟨rfl, n, rfl⟩
                              go_wp2_with fail
                              go_ret
                              exact ⟨rfl, by first | exact below_drewN ((Below.refl _ w).alloc (Nat.le_refl _) _) _ | exact (Below.refl _ w).alloc (Nat.le_refl _) _⟩
                            · by_cases g5 : 16 < weight
                              · have := g5
                                have hr := Rr.out (by omega) hpi hfs
                                rw [if_neg (by omega), if_neg (by omega), if_pos (by omega)] at hr
                                clear hfs
                                subst hr
                                go_enter Try.func40, Try.ntmps40
                                go_wp2_with fail
                                refine (Hu.out _).mono ?_; rintro e w' ⟨rfl, n, rfl⟩
                                go_wp2_with fail
                                go_ret
                                exact ⟨rfl, by first | exact below_drewN ((Below.refl _ w).alloc (Nat.le_refl _) _) _ | exact (Below.refl _ w).alloc (Nat.le_refl _) _⟩
                              · skip
                                by_cases l6 : minIdle < -1099511627776
                                · have := l6
                                  have hr := Rr.out (by omega) hpi hfs
                                  rw [if_neg (by omega), if_neg (by omega), if_pos (by omega)] at hr
                                  clear hfs
                                  subst hr
                                  go_enter Try.func40, Try.ntmps40
                                  go_wp2_with fail
                                  refine (Hu.out _).mono ?_; rintro e w' ⟨rfl, n, rfl⟩
                                  go_wp2_with fail
                                  go_ret
                                  exact ⟨rfl, by first | exact below_drewN ((Below.refl _ w).alloc (Nat.le_refl _) _) _ | exact (Below.refl _ w).alloc (Nat.le_refl _) _⟩
                                · by_cases g6 : 0 < minIdle
                                  · have := g6
                                    have hr := Rr.out (by omega) hpi hfs
                                    rw [if_neg (by omega), if_neg (by omega), if_pos (by omega)] at hr
                                    clear hfs
                                    subst hr
                                    go_enter Try.func40, Try.ntmps40
                                    go_wp2_with fail
                                    refine (Hu.out _).mono ?_; rintro e w' ⟨rfl, n, rfl⟩
                                    go_wp2_with fail
                                    go_ret
                                    exact ⟨rfl, by first | exact below_drewN ((Below.refl _ w).alloc (Nat.le_refl _) _) _ | exact (Below.refl _ w).alloc (Nat.le_refl _) _⟩
                                  · skip
                                    by_cases l7 : maxIdle < 0
                                    · have := l7
                                      have hr := Rr.out (by omega) hpi hfs
                                      rw [if_neg (by omega), if_neg (by omega), if_pos (by omega)] at hr
                                      clear hfs
                                      subst hr
                                      go_enter Try.func40, Try.ntmps40
                                      go_wp2_with fail
                                      refine (Hu.out _).mono ?_; rintro e w' ⟨rfl, n, rfl⟩
                                      go_wp2_with fail
                                      go_ret
                                      exact ⟨rfl, by first | exact below_drewN ((Below.refl _ w).alloc (Nat.le_refl _) _) _ | exact (Below.refl _ w).alloc (Nat.le_refl _) _⟩
                                    · by_cases g7 : 1099511627776 < maxIdle
                                      · have := g7
                                        have hr := Rr.out (by omega) hpi hfs
                                        rw [if_neg (by omega), if_neg (by omega), if_pos (by omega)] at hr
                                        clear hfs
                                        subst hr
                                        go_enter Try.func40, Try.ntmps40
                                        go_wp2_with fail
                                        refine (Hu.out _).mono ?_; rintro e w' ⟨rfl, n, rfl⟩
                                        go_wp2_with fail
                                        go_ret
                                        exact ⟨rfl, by first | exact below_drewN ((Below.refl _ w).alloc (Nat.le_refl _) _) _ | exact (Below.refl _ w).alloc (Nat.le_refl _) _⟩
                                      · skip
                                        have hr := Rr.out (by omega) hpi hfs
                                        rw [if_neg (by omega), if_neg (by omega), if_neg (by omega)] at hr
                                        clear hfs
                                        subst hr
                                        go_enter Try.func40, Try.ntmps40
                                        go_wp2_with fail
                                        refine (Hu.out _).mono ?_; rintro e w' ⟨rfl, n, rfl⟩
                                        go_wp2_with fail
                                        go_ret
                                        exact ⟨rfl, by first | exact below_drewN ((Below.refl _ w).alloc (Nat.le_refl _) _) _ | exact (Below.refl _ w).alloc (Nat.le_refl _) _⟩

theorem unitsc_any (c : Cls) (hs : c.share < 18446744073709551616) (w : World) : Calls Try.prog 41 #[c.agg] w (Ret1 (.int .i64 ((unitsS c.share).1 : Int)) w) := by
  have hu := units_any c.share hs
  obtain ⟨id, parent, share, prio, quantum, limit, weight, minIdle, maxIdle, bounded, isolated⟩ := c
  unfold Cls.agg
  simp only at *
  generalize unitsS share = u at *
  obtain ⟨a, b⟩ := u
  have Hu := Lib.hid hu; clear hu
  go_enter Try.func41, Try.ntmps41
  go_wp2_with fail
  refine (Hu.out _).mono ?_; rintro e w' ⟨rfl, n, rfl⟩
  go_wp2_with fail
  go_ret
  exact ⟨rfl, below_drewN ((Below.refl _ w).alloc (Nat.le_refl _) _) _⟩
theorem refunitsc_any (c : Cls) (hs : c.share < 18446744073709551616) (w : World) : Calls Try.prog 42 #[c.agg] w (Ret1 (.int .i64 ((unitsS c.share).1 : Int)) w) := by
  have hu := refunits_any c.share hs
  obtain ⟨id, parent, share, prio, quantum, limit, weight, minIdle, maxIdle, bounded, isolated⟩ := c
  unfold Cls.agg
  simp only at *
  generalize unitsS share = u at *
  obtain ⟨a, b⟩ := u
  have Hu := Lib.hid hu; clear hu
  go_enter Try.func42, Try.ntmps42
  go_wp2_with fail
  refine (Hu.out _).mono ?_; rintro e w' ⟨rfl, n, rfl⟩
  go_wp2_with fail
  go_ret
  exact ⟨rfl, below_drewN ((Below.refl _ w).alloc (Nat.le_refl _) _) _⟩
theorem borrows_any (c : Cls) (w : World) : Calls Try.prog 45 #[c.agg] w (Ret1 (.bool (!c.bounded && !c.isolated)) w) := by
  obtain ⟨id, parent, share, prio, quantum, limit, weight, minIdle, maxIdle, bounded, isolated⟩ := c
  unfold Cls.agg
  cases bounded <;> cases isolated
  all_goals
    go_enter Try.func45, Try.ntmps45
    go_wp2_with fail
    go_ret
    exact ⟨rfl, (Below.refl _ w).alloc (Nat.le_refl _) _⟩

end Go.Proofs.Ytdoemgccmjddcaa.Cl
