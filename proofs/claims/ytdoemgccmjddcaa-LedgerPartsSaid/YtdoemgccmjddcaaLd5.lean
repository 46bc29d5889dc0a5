/- counts, size, stat, Of, Reason. -/
import Derived.Test.YtdoemgccmjddcaaLd4
namespace Go.Proofs.Ytdoemgccmjddcaa.Ld
open Go.RowKit Go.Maps Wd Li Sr

def Note.agg (x : Note) : Value := .agg #[.int .i64 x.kind, .int .i64 x.id, .int .i64 x.n]
set_option maxRecDepth 20000 in
set_option maxHeartbeats 1000000 in
theorem counts_c (x : Note) (w : World) : Calls Try.prog 128 #[x.agg] w fun e w' => e = .returned (.bool x.counts) ∧ Below w.heap.size w w' := by
  obtain ⟨kind, id, n⟩ := x
  unfold Note.agg
  simp only
  by_cases h0 : kind = 0
  · have hc : Note.counts ⟨kind, id, n⟩ = true := by simp [Note.counts, h0]
    have e0 : (kind == 0) = true := by rw [beq_iff_eq]; exact h0
    rw [hc]; clear h0 hc
    go_enter Try.func128, Try.ntmps128
    go_wp2
    go_ret
    exact ⟨rfl, (Below.refl _ w).alloc (Nat.le_refl _) _⟩
  · have e0 : (kind == 0) = false := by rw [beq_eq_false_iff_ne]; exact h0
    by_cases h1 : kind = 1
    · have hc : Note.counts ⟨kind, id, n⟩ = true := by simp [Note.counts, h1]
      have e1 : (kind == 1) = true := by rw [beq_iff_eq]; exact h1
      rw [hc]; clear h0 h1 hc
      go_enter Try.func128, Try.ntmps128
      go_wp2
      go_ret
      exact ⟨rfl, (Below.refl _ w).alloc (Nat.le_refl _) _⟩
    · have e1 : (kind == 1) = false := by rw [beq_eq_false_iff_ne]; exact h1
      by_cases h2 : kind = 2
      · have e2 : (kind == 2) = true := by rw [beq_iff_eq]; exact h2
        by_cases h3 : 1 ≤ n
        · have e3 : decide (1 ≤ n) = true := decide_eq_true h3
          by_cases h4 : n ≤ 5
          · have e4 : decide (n ≤ 5) = true := decide_eq_true h4
            have hc : Note.counts ⟨kind, id, n⟩ = true := by simp [Note.counts, h2, h3, h4]
            rw [hc]; clear h0 h1 h2 h3 h4 hc
            go_enter Try.func128, Try.ntmps128
            go_wp2
            go_ret
            exact ⟨rfl, (Below.refl _ w).alloc (Nat.le_refl _) _⟩
          · have e4 : decide (n ≤ 5) = false := decide_eq_false h4
            have hc : Note.counts ⟨kind, id, n⟩ = false := by simp [Note.counts, h0, h1]; omega
            rw [hc]; clear h0 h1 h2 h3 h4 hc
            go_enter Try.func128, Try.ntmps128
            go_wp2
            go_ret
            exact ⟨rfl, (Below.refl _ w).alloc (Nat.le_refl _) _⟩
        · have e3 : decide (1 ≤ n) = false := decide_eq_false h3
          have hc : Note.counts ⟨kind, id, n⟩ = false := by simp [Note.counts, h0, h1]; omega
          rw [hc]; clear h0 h1 h2 h3 hc
          go_enter Try.func128, Try.ntmps128
          go_wp2
          go_ret
          exact ⟨rfl, (Below.refl _ w).alloc (Nat.le_refl _) _⟩
      · have e2 : (kind == 2) = false := by rw [beq_eq_false_iff_ne]; exact h2
        have hc : Note.counts ⟨kind, id, n⟩ = false := by simp [Note.counts, h0, h1, h2]
        rw [hc]; clear h0 h1 h2 hc
        go_enter Try.func128, Try.ntmps128
        go_wp2
        go_ret
        exact ⟨rfl, (Below.refl _ w).alloc (Nat.le_refl _) _⟩

set_option maxRecDepth 20000 in
theorem refsize_c (n : Int) (w : World) : Calls Try.prog 129 #[.int .i64 n] w fun e w' => e = .returned (.int .i64 (size n)) ∧ w = w' := by
  by_cases h1 : n ≤ 2048
  · by_cases h2 : 0 ≤ n
    · have hs : size n = n := by unfold size; omega
      rw [hs]; clear hs
      go_enter Try.func129, Try.ntmps129
      go_wp2
      all_goals
        go_ret
        exact ⟨by first | rfl | (congr 2; omega) | (simp; omega), rfl⟩
    · have hs : size n = 0 := by unfold size; omega
      rw [hs]; clear hs
      go_enter Try.func129, Try.ntmps129
      go_wp2
      all_goals
        go_ret
        exact ⟨by first | rfl | (congr 2; omega), rfl⟩
  · have hs : size n = 2048 := by unfold size; omega
    rw [hs]; clear hs
    go_enter Try.func129, Try.ntmps129
    go_wp2
    all_goals
      go_ret
      exact ⟨by first | rfl | (congr 2; omega), rfl⟩

structure Stat where
  got : Int
  gotB : Int
  sent : Int
  sentB : Int
  lost : Int
  wait : Int
def Stat.agg (s : Stat) : Value := .agg #[.int .i64 s.got, .int .i64 s.gotB, .int .i64 s.sent, .int .i64 s.sentB, .int .i64 s.lost, .int .i64 s.wait]
def lostS (b : Book) : Int := b.l0 + b.l1 + b.l2 + b.l3 + b.l4 + b.l5
def statS (b : Book) : Stat := ⟨b.got, b.gotB, b.sent, b.sentB, lostS b, max 0 (b.got - b.sent)⟩

theorem ix0 (l0 l1 l2 l3 l4 l5 : Int) (w : World) : (Instr.index 151 (.agg #[.int .i64 l0, .int .i64 l1, .int .i64 l2, .int .i64 l3, .int .i64 l4, .int .i64 l5]) (.int .i64 0)).run Try.prog w = .ok (.int .i64 l0) w := by kernel_rfl
theorem ix1 (l0 l1 l2 l3 l4 l5 : Int) (w : World) : (Instr.index 151 (.agg #[.int .i64 l0, .int .i64 l1, .int .i64 l2, .int .i64 l3, .int .i64 l4, .int .i64 l5]) (.int .i64 1)).run Try.prog w = .ok (.int .i64 l1) w := by kernel_rfl
theorem ix2 (l0 l1 l2 l3 l4 l5 : Int) (w : World) : (Instr.index 151 (.agg #[.int .i64 l0, .int .i64 l1, .int .i64 l2, .int .i64 l3, .int .i64 l4, .int .i64 l5]) (.int .i64 2)).run Try.prog w = .ok (.int .i64 l2) w := by kernel_rfl
theorem ix3 (l0 l1 l2 l3 l4 l5 : Int) (w : World) : (Instr.index 151 (.agg #[.int .i64 l0, .int .i64 l1, .int .i64 l2, .int .i64 l3, .int .i64 l4, .int .i64 l5]) (.int .i64 3)).run Try.prog w = .ok (.int .i64 l3) w := by kernel_rfl
theorem ix4 (l0 l1 l2 l3 l4 l5 : Int) (w : World) : (Instr.index 151 (.agg #[.int .i64 l0, .int .i64 l1, .int .i64 l2, .int .i64 l3, .int .i64 l4, .int .i64 l5]) (.int .i64 4)).run Try.prog w = .ok (.int .i64 l4) w := by kernel_rfl
theorem ix5 (l0 l1 l2 l3 l4 l5 : Int) (w : World) : (Instr.index 151 (.agg #[.int .i64 l0, .int .i64 l1, .int .i64 l2, .int .i64 l3, .int .i64 l4, .int .i64 l5]) (.int .i64 5)).run Try.prog w = .ok (.int .i64 l5) w := by kernel_rfl
set_option maxRecDepth 20000 in
set_option maxHeartbeats 2000000 in
theorem stat_c (b : Book) (hb : b.low 4611686018) (w : World) : Calls Try.prog 127 #[b.agg] w fun e w' => e = .returned (statS b).agg ∧ Below w.heap.size w w' := by
  obtain ⟨got, gotB, sent, sentB, l0, l1, l2, l3, l4, l5⟩ := b
  unfold Book.low at hb
  simp only at hb
  obtain ⟨a1, a2, a3, a4, a5, a6, a7, a8, rfl, a10, a11, a12, a13, a14, a15, a16, a17, a18, a19⟩ := hb
  unfold Book.agg statS Stat.agg lostS
  simp only
  by_cases hgs : got ≤ sent
  · have hm : max 0 (got - sent) = 0 := by omega
    rw [hm]
    clear hm
    have i0 := ix0 0 l1 l2 l3 l4 l5; have i1 := ix1 0 l1 l2 l3 l4 l5; have i2 := ix2 0 l1 l2 l3 l4 l5; have i3 := ix3 0 l1 l2 l3 l4 l5; have i4 := ix4 0 l1 l2 l3 l4 l5; have i5 := ix5 0 l1 l2 l3 l4 l5
    go_enter Try.func127, Try.ntmps127
    go_wp2_with fail
    refine wp_loop_rounds 7 ?_
    iterate 7 (rw [rounds_succ]; go_wp2_with fail)
    (try simp only [Exit.inBlock, Exit.then])
    refine bodyPost_ret (v := .agg #[.int .i64 got, .int .i64 gotB, .int .i64 sent, .int .i64 sentB, .int .i64 (0 + l1 + l2 + l3 + l4 + l5), .int .i64 0]) (by simp [results, Try.results127, go_sem]) rfl ⟨rfl, ?_⟩
    · (repeat' (first | assumption | exact Below.refl _ _ | refine Below.alloc ?_ ?_ _ | refine Below.setCell ?_ ?_ _ | omega | (simp; omega) | simp))
  · have hm : max 0 (got - sent) = got - sent := by omega
    rw [hm]
    clear hm
    have i0 := ix0 0 l1 l2 l3 l4 l5; have i1 := ix1 0 l1 l2 l3 l4 l5; have i2 := ix2 0 l1 l2 l3 l4 l5; have i3 := ix3 0 l1 l2 l3 l4 l5; have i4 := ix4 0 l1 l2 l3 l4 l5; have i5 := ix5 0 l1 l2 l3 l4 l5
    go_enter Try.func127, Try.ntmps127
    go_wp2_with fail
    refine wp_loop_rounds 7 ?_
    iterate 7 (rw [rounds_succ]; go_wp2_with fail)
    (try simp only [Exit.inBlock, Exit.then])
    refine bodyPost_ret (v := .agg #[.int .i64 got, .int .i64 gotB, .int .i64 sent, .int .i64 sentB, .int .i64 (0 + l1 + l2 + l3 + l4 + l5), .int .i64 (got - sent)]) (by simp [results, Try.results127, go_sem]) rfl ⟨rfl, ?_⟩
    · (repeat' (first | assumption | exact Below.refl _ _ | refine Below.alloc ?_ ?_ _ | refine Below.setCell ?_ ?_ _ | omega | (simp; omega) | simp))
end Go.Proofs.Ytdoemgccmjddcaa.Ld
