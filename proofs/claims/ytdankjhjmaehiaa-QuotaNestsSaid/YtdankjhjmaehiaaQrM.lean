/- Cells of bytes; whether a table may be. Quotients of products: sat.Up and the document's. Bit by bit; by halves. sat.divided: bit by bit. Quotients of products rounded up; times of bytes: the program's and the document's. Tables of times. -/
import Derived.Test.YtdankjhjmaehiaaQpM
import Derived.Test.YtdankjhjmaehiaaSrM
import Derived.Shelf.Bits.Mul64
import Derived.Laws.Bits64b
import Derived.Deep.LoopGhost
import Derived.WalkMore
import Derived.OwnWalk
import Derived.Test.YtdankjhjmaehiaaLx
import Derived.Test.YtdankjhjmaehiaaSw
import Derived.Laws.CopyRow
/- Cells of bytes; whether a table may be. -/
namespace Go.Proofs.Ytdankjhjmaehiaa.Qu
open Go.RowKit Go.Proofs.Ytdankjhjmaehiaa.Wd Go.Proofs.Ytdankjhjmaehiaa.Fl Go.Proofs.Ytdankjhjmaehiaa.St Go.Proofs.Ytdankjhjmaehiaa.Sr

theorem cells_c (n : Int) (w : World) : Calls Try.prog 54 #[.int .i64 n] w fun e w' => e = .returned (.int .i64 (cellsS n : Int)) ∧ w = w' := by
  go_enter Try.func54, Try.ntmps54
  go_wp2
  all_goals
    go_ret
    refine ⟨congrArg (fun i => Ending.returned (Value.int .i64 i)) ?_, rfl⟩
    unfold cellsS
    omega
def rateI (tpb u : Int) : Bool := decide (1 ≤ tpb) && decide (tpb ≤ 1048576) && decide (1 ≤ u) && decide (u ≤ 1048576)
theorem rateI_true {tpb u : Int} (h : rateI tpb u = true) : 1 ≤ tpb ∧ tpb ≤ 1048576 ∧ 1 ≤ u ∧ u ≤ 1048576 := by
  unfold rateI at h
  simp only [Bool.and_eq_true, decide_eq_true_eq] at h
  exact ⟨h.1.1.1, h.1.1.2, h.1.2, h.2⟩
set_option maxHeartbeats 1000000 in
theorem rright_c (tpb u : Int) (w : World) : Calls Try.prog 52 #[.int .i64 tpb, .int .i64 u] w fun e w' => e = .returned (.bool (rateI tpb u)) ∧ w = w' := by
  unfold rateI
  obtain ⟨q1, h1⟩ : ∃ q, decide (1 ≤ tpb) = q := ⟨_, rfl⟩
  obtain ⟨q2, h2⟩ : ∃ q, decide (tpb ≤ 1048576) = q := ⟨_, rfl⟩
  obtain ⟨q3, h3⟩ : ∃ q, decide (1 ≤ u) = q := ⟨_, rfl⟩
  obtain ⟨q4, h4⟩ : ∃ q, decide (u ≤ 1048576) = q := ⟨_, rfl⟩
  rw [h1, h2, h3, h4]
  cases q1 <;> cases q2 <;> cases q3 <;> cases q4 <;>
    (go_enter Try.func52, Try.ntmps52
     go_wp2
     go_ret
     exact ⟨rfl, rfl⟩)
set_option maxHeartbeats 1000000 in
theorem refright_c (tpb u : Int) (w : World) : Calls Try.prog 57 #[.int .i64 tpb, .int .i64 u] w fun e w' => e = .returned (.bool (rateI tpb u)) ∧ w = w' := by
  unfold rateI
  obtain ⟨q1, h1⟩ : ∃ q, decide (1 ≤ tpb) = q := ⟨_, rfl⟩
  obtain ⟨q2, h2⟩ : ∃ q, decide (tpb ≤ 1048576) = q := ⟨_, rfl⟩
  obtain ⟨q3, h3⟩ : ∃ q, decide (1 ≤ u) = q := ⟨_, rfl⟩
  obtain ⟨q4, h4⟩ : ∃ q, decide (u ≤ 1048576) = q := ⟨_, rfl⟩
  rw [h1, h2, h3, h4]
  cases q1 <;> cases q2 <;> cases q3 <;> cases q4 <;>
    (go_enter Try.func57, Try.ntmps57
     go_wp2
     go_ret
     exact ⟨rfl, rfl⟩)
/-- the document counts the cells one by one -/
theorem refcells_c (n : Int) (_hn : (Lit.int .i64 n).wf = true) (w : World) : Calls Try.prog 59 #[.int .i64 n] w fun e w' => e = .returned (.int .i64 (cellsS n : Int)) ∧ w = w' := by
  have hle := cells_le n
  go_enter Try.func59, Try.ntmps59
  go_wp2
  go_loopg [3] (cellsS n) (fun kx s3 wr => ∃ k : Nat, s3 = .int .i64 k ∧ k ≤ cellsS n ∧ cellsS n - k ≤ kx ∧ wr = w)
  case atStart => exact ⟨0, rfl, by omega, by omega, rfl⟩
  case round =>
    obtain ⟨k, rfl, hk, hkx, rfl⟩ := hrel
    by_cases hlt : k < cellsS n
    · have h1 : decide ((k : Int) < 256) = true := decide_eq_true (by omega)
      have h2 : decide (8 * (k : Int) < n) = true := decide_eq_true (by unfold cellsS at hlt; omega)
      go_wp2
      go_roundg (cellsS n - (k + 1))
      case measure => omega
      case rel => exact ⟨k + 1, by go_num, by omega, by omega, rfl⟩
    · obtain rfl : k = cellsS n := by omega
      by_cases h6 : cellsS n < 256
      · have h1 : decide ((cellsS n : Int) < 256) = true := decide_eq_true (by omega)
        have h2 : decide (8 * (cellsS n : Int) < n) = false := decide_eq_false (by unfold cellsS at h6 ⊢; omega)
        go_wp2
        go_ret
        exact ⟨rfl, rfl⟩
      · have h1 : decide ((cellsS n : Int) < 256) = false := decide_eq_false (by omega)
        go_wp2
        go_ret
        exact ⟨rfl, rfl⟩
end Go.Proofs.Ytdankjhjmaehiaa.Qu

/- Quotients of products: sat.Up and the document's. -/
namespace Go.Proofs.Ytdankjhjmaehiaa.Qu
open Go.RowKit Go.Proofs.Ytdankjhjmaehiaa.Wd Go.Proofs.Ytdankjhjmaehiaa.Fl Go.Proofs.Ytdankjhjmaehiaa.St Go.Proofs.Ytdankjhjmaehiaa.Sr

set_option maxHeartbeats 1000000 in
theorem satright_c (a b c : Nat) (ha : a ≤ 1152921504606846976) (hb : b ≤ 1152921504606846976) (hc : c ≤ 1152921504606846976) (hc0 : 0 < c) (w : World) : Calls Try.prog 81 #[.int .i64 a, .int .i64 b, .int .i64 c] w fun e w' => e = .returned (.bool true) ∧ w = w' := by
  have h1 : decide ((0 : Int) ≤ (a : Int)) = true := decide_eq_true (by omega)
  have h2 : decide ((a : Int) ≤ 1152921504606846976) = true := decide_eq_true (by omega)
  have h3 : decide ((0 : Int) ≤ (b : Int)) = true := decide_eq_true (by omega)
  have h4 : decide ((b : Int) ≤ 1152921504606846976) = true := decide_eq_true (by omega)
  have h5 : decide ((1 : Int) ≤ (c : Int)) = true := decide_eq_true (by omega)
  have h6 : decide ((c : Int) ≤ 1152921504606846976) = true := decide_eq_true (by omega)
  go_enter Try.func81, Try.ntmps81
  go_wp2
  go_ret
  exact ⟨rfl, rfl⟩
set_option maxHeartbeats 1000000 in
theorem refsatright_c (a b c : Nat) (ha : a ≤ 1152921504606846976) (hb : b ≤ 1152921504606846976) (hc : c ≤ 1152921504606846976) (hc0 : 0 < c) (w : World) : Calls Try.prog 74 #[.int .i64 a, .int .i64 b, .int .i64 c] w fun e w' => e = .returned (.bool true) ∧ w = w' := by
  have h1 : decide ((0 : Int) ≤ (a : Int)) = true := decide_eq_true (by omega)
  have h2 : decide ((a : Int) ≤ 1152921504606846976) = true := decide_eq_true (by omega)
  have h3 : decide ((0 : Int) ≤ (b : Int)) = true := decide_eq_true (by omega)
  have h4 : decide ((b : Int) ≤ 1152921504606846976) = true := decide_eq_true (by omega)
  have h5 : decide ((1 : Int) ≤ (c : Int)) = true := decide_eq_true (by omega)
  have h6 : decide ((c : Int) ≤ 1152921504606846976) = true := decide_eq_true (by omega)
  go_enter Try.func74, Try.ntmps74
  go_wp2_with (go_at_call 92; (with_reducible refine (most_c _).mono ?_); rintro e w' ⟨rfl, rfl⟩)
  go_ret
  exact ⟨rfl, rfl⟩
/-- a product below 2^64 of two words below 2^32 -/
theorem mul64_c (x y : Nat) (hx : x < 4294967296) (hy : y < 4294967296) (w : World) : Calls Try.prog 82 #[.int .u64 x, .int .u64 y] w fun e w' => e = .returned (.tuple #[.int .u64 0, .int .u64 ((x * y : Nat) : Int)]) ∧ w = w' := by
  have hxy : x * y < 18446744073709551616 := by
    have := Nat.mul_le_mul (Nat.le_of_lt_succ (show x < 4294967295 + 1 by omega)) (Nat.le_of_lt_succ (show y < 4294967295 + 1 by omega))
    omega
  have ax := Mul64.maskN x (by omega)
  have ay := Mul64.maskN y (by omega)
  rw [Nat.mod_eq_of_lt hx] at ax
  rw [Nat.mod_eq_of_lt hy] at ay
  have az : bits .and .u64 (((x * y / 4294967296 : Nat) : Int)) 4294967295 = ((x * y / 4294967296 : Nat) : Int) := by
    have := Mul64.maskN (x * y / 4294967296) (by omega)
    rw [Nat.mod_eq_of_lt (by omega)] at this
    exact this
  have dx : (x : Int) / 4294967296 = 0 := by omega
  have dy : (y : Int) / 4294967296 = 0 := by omega
  have hm : (x : Int) * (y : Int) = ((x * y : Nat) : Int) := (Int.natCast_mul x y).symm
  have hd : ((x * y : Nat) : Int) / 4294967296 = ((x * y / 4294967296 : Nat) : Int) := by omega
  have hd2 : ((x * y / 4294967296 : Nat) : Int) / 4294967296 = 0 := by omega
  generalize x * y = p at *
  generalize hq : p / 4294967296 = q at *
  have hql : q < 4294967296 := by omega
  clear hq hx hy
  go_enter Try.func82, Try.ntmps82
  go_wp2
  go_ret2
  exact ⟨rfl, rfl⟩
end Go.Proofs.Ytdankjhjmaehiaa.Qu

/- Bit by bit; by halves. -/
namespace Go.Proofs.Ytdankjhjmaehiaa.Qu
open Go.RowKit Go.Proofs.Ytdankjhjmaehiaa.Wd Go.Proofs.Ytdankjhjmaehiaa.Fl Go.Proofs.Ytdankjhjmaehiaa.St Go.Proofs.Ytdankjhjmaehiaa.Sr

set_option maxRecDepth 20000 in
set_option maxHeartbeats 1000000 in
theorem part_c : ∀ (n a : Nat), a < 2 ^ n → ∀ (b c : Nat), 0 < c → c ≤ 1152921504606846976 → b ≤ 1152921504606846976 → a ≤ 1152921504606846976 → a * b / c ≤ 2305843009213693952 → ∀ (w : World),
    Calls Try.prog 75 #[.int .i64 a, .int .i64 b, .int .i64 c] w fun e w' => e = .returned (.tuple #[.int .i64 ((a * b / c : Nat) : Int), .int .i64 ((a * b % c : Nat) : Int)]) ∧ w = w' := by
  intro n
  induction n with
  | zero =>
    intro a ha b c hc hc6 hb ha6 hq w
    obtain rfl : a = 0 := by simpa using ha
    have e1 : 0 * b / c = 0 := by rw [Nat.zero_mul, Nat.zero_div]
    have e2 : 0 * b % c = 0 := by rw [Nat.zero_mul, Nat.zero_mod]
    rw [e1, e2]
    go_enter Try.func75, Try.ntmps75
    go_wp2
    go_ret2
    exact ⟨rfl, rfl⟩
  | succ n ih =>
    intro a ha b c hc hc6 hb ha6 hq w
    by_cases h0 : a = 0
    · subst h0
      have e1 : 0 * b / c = 0 := by rw [Nat.zero_mul, Nat.zero_div]
      have e2 : 0 * b % c = 0 := by rw [Nat.zero_mul, Nat.zero_mod]
      rw [e1, e2]
      go_enter Try.func75, Try.ntmps75
      go_wp2
      go_ret2
      exact ⟨rfl, rfl⟩
    · have hz : ((a : Int) == 0) = false := by rw [beq_eq_false_iff_ne]; omega
      obtain ⟨s1, s2⟩ := half_step a b c hc
      have hql : a / 2 * b / c ≤ 2305843009213693952 := Nat.le_trans (Nat.div_le_div_right (Nat.mul_le_mul_right _ (Nat.div_le_self a 2))) hq
      have hrl := Nat.mod_lt (a / 2 * b) hc
      have HI0 := ih (a / 2) (by rw [Nat.pow_succ] at ha; omega) b c hc hc6 hb (by omega) hql w
      have hd2 : Int.tdiv (a : Int) 2 = ((a / 2 : Nat) : Int) := rfl
      have hbc : Int.tdiv (b : Int) (c : Int) = ((b / c : Nat) : Int) := rfl
      have hbm : Int.tmod (b : Int) (c : Int) = ((b % c : Nat) : Int) := rfl
      have hbl := Nat.div_le_self b c
      have hbr := Nat.mod_lt b hc
      have hc0 : ¬ (c : Int) = 0 := by omega
      rw [s2]
      rw [s1] at hq ⊢
      generalize a / 2 * b / c = q at *
      generalize a / 2 * b % c = r at *
      generalize hB1 : b / c = b1 at *
      generalize hB2 : b % c = b2 at *
      have ha2 : a / 2 ≤ 1152921504606846976 := by omega
      generalize a / 2 = a2 at *
      have HI := Lib.hid HI0
      by_cases ho : a % 2 = 1
      · have hm2 : Int.tmod (a : Int) 2 = 1 := by show (((a % 2 : Nat)) : Int) = 1; rw [ho]; rfl
        simp only [if_pos ho] at hq ⊢
        have hx : Int.tdiv (2 * (r : Int) + (b2 : Int)) (c : Int) = (((2 * r + b2) / c : Nat) : Int) := rfl
        have hy : Int.tmod (2 * (r : Int) + (b2 : Int)) (c : Int) = (((2 * r + b2) % c : Nat) : Int) := rfl
        generalize (2 * r + b2) / c = d1 at *
        generalize (2 * r + b2) % c = d2 at *
        have hfin : ((2 * q + b1 + d1 : Nat) : Int) = 2 * (q : Int) + (b1 : Int) + (d1 : Int) := by omega
        have HFIN := Lib.hid hfin
        clear s1 s2 hB1 hB2 ih ha HI0 hfin ho
        go_enter Try.func75, Try.ntmps75
        go_wp2_with (first
          | (go_at_call 75; (with_reducible refine (HI.out).mono ?_); rintro e w' ⟨rfl, rfl⟩)
          | (go_at_call 92; (with_reducible refine (most_c _).mono ?_); rintro e w' ⟨rfl, rfl⟩))
        go_ret2
        refine ⟨?_, rfl⟩
        rw [HFIN.out]
        rfl
      · have hm2 : Int.tmod (a : Int) 2 = 0 := by show (((a % 2 : Nat)) : Int) = 0; rw [show a % 2 = 0 by omega]; rfl
        simp only [if_neg ho] at hq ⊢
        have hx : Int.tdiv (2 * (r : Int)) (c : Int) = (((2 * r) / c : Nat) : Int) := rfl
        have hy : Int.tmod (2 * (r : Int)) (c : Int) = (((2 * r) % c : Nat) : Int) := rfl
        simp only [Nat.add_zero] at hq ⊢
        generalize (2 * r) / c = d1 at *
        generalize (2 * r) % c = d2 at *
        have hfin : ((2 * q + d1 : Nat) : Int) = 2 * (q : Int) + (d1 : Int) := by omega
        have HFIN := Lib.hid hfin
        clear s1 s2 hB1 hB2 ih ha HI0 hfin ho
        go_enter Try.func75, Try.ntmps75
        go_wp2_with (first
          | (go_at_call 75; (with_reducible refine (HI.out).mono ?_); rintro e w' ⟨rfl, rfl⟩)
          | (go_at_call 92; (with_reducible refine (most_c _).mono ?_); rintro e w' ⟨rfl, rfl⟩))
        go_ret2
        refine ⟨?_, rfl⟩
        rw [HFIN.out]
        rfl
end Go.Proofs.Ytdankjhjmaehiaa.Qu

/- sat.divided: bit by bit. -/
namespace Go.Proofs.Ytdankjhjmaehiaa.Qu
open Go.RowKit Go.Proofs.Ytdankjhjmaehiaa.Wd Go.Proofs.Ytdankjhjmaehiaa.Fl Go.Proofs.Ytdankjhjmaehiaa.St Go.Proofs.Ytdankjhjmaehiaa.Sr

theorem and_one (v : Nat) (hv : v < 18446744073709551616) : bits .and .u64 (v : Int) 1 = ((v % 2 : Nat) : Int) := by
  have h := bits_and_u64_nat v 1 hv (by omega)
  rw [Nat.and_one_is_mod] at h
  exact h
theorem or_one (r b : Nat) (hr : r < 4611686018427387904) (hb : b < 2) : bits .or .u64 ((2 * r : Nat) : Int) (b : Int) = ((2 * r + b : Nat) : Int) := by
  rw [bits_or_u64_nat (2 * r) b (by omega) (by omega)]
  have h := Nat.two_pow_add_eq_or_of_lt (i := 1) (b := b) (by omega) r
  rw [Nat.pow_one] at h
  rw [h]
/-- what stands when so many bits are left -/
def halfAt (i h : Nat) : Nat := if i = 1 then h else 0
def doneAt (i h : Nat) : Nat := if i = 2 then h else 0
set_option maxRecDepth 20000 in
set_option maxHeartbeats 2000000 in
theorem divided_c (h c : Nat) (hh : h < 18446744073709551616) (hc : 0 < c) (hc6 : c ≤ 1152921504606846976) (hq : h / c ≤ 1152921504606846976) (w : World) :
    Calls Try.prog 83 #[.agg #[.int .u64 0, .int .u64 h], .int .u64 c] w fun e w' => e = .returned (.tuple #[.int .u64 ((h / c : Nat) : Int), .int .u64 ((h % c : Nat) : Int), .bool false]) ∧ Below w.heap.size w w' := by
  have hr0 := (row_new w 111 [.int .u64 0, .int .u64 h])
  have hB0 : Below w.heap.size w (w.alloc (.cells #[.int .u64 0, .int .u64 h] 111)) := (Below.refl _ w).alloc (Nat.le_refl _) _
  have HB0 := Lib.hid hB0
  clear hB0 hr0
  have HQ := Lib.hid hq
  clear hq
  go_enter Try.func83, Try.ntmps83
  go_wp2
  go_step3
  go_wp2
  go_step3
  go_wp2
  go_loopg [7, 8, 13] 2 (fun kx s7 s8 s13 wr => ∃ i q r : Nat, s13 = .int .i64 i ∧ i ≤ 2 ∧ 2 - i ≤ kx ∧ s7 = .int .u64 (q : Int) ∧ s8 = .int .u64 (r : Int) ∧ wr = w.alloc (.cells #[.int .u64 0, .int .u64 h] 111) ∧ Hid (q = doneAt i h / c ∧ r = doneAt i h % c))
  case atStart => exact ⟨0, 0, 0, rfl, by omega, by omega, rfl, rfl, rfl, Lib.hid ⟨by unfold doneAt; simp, by unfold doneAt; simp⟩⟩
  case round =>
    obtain ⟨i, q, r, rfl, hi, hkx, rfl, rfl, rfl, HD⟩ := hrel
    obtain rfl | rfl | rfl : i = 0 ∨ i = 1 ∨ i = 2 := by omega
    · have hix : ∀ w, (Instr.index 111 (.agg #[.int .u64 0, .int .u64 (h : Int)]) (.int .i64 0)).run Try.prog w = .ok (.int .u64 0) w := fun w => by kernel_rfl
      have h01 : bits .and .u64 0 1 = 0 := by decide +kernel
      have h00 : bits .or .u64 0 0 = 0 := by decide +kernel
      obtain ⟨rfl, rfl⟩ : q = 0 ∧ r = 0 := by
        have := HD.out
        unfold doneAt at this
        rw [if_neg (by decide), Nat.zero_div, Nat.zero_mod] at this
        exact this
      have hcz : ¬ (c : Int) ≤ 0 := by omega
      go_wp2_with fail
      go_loopg [7, 8, 11] 64 (fun kx s7 s8 s11 wr => ∃ j : Nat, s11 = .int .i64 ((j : Int) - 1) ∧ j ≤ 64 ∧ j ≤ kx ∧ s7 = .int .u64 0 ∧ s8 = .int .u64 0 ∧ wr = w.alloc (.cells #[.int .u64 0, .int .u64 h] 111))
      case atStart => exact ⟨64, by go_num, by omega, by omega, by go_num, by go_num, rfl⟩
      case round =>
        obtain ⟨j, rfl, hj, hjx, rfl, rfl, rfl⟩ := hrel
        cases j with
        | zero =>
          have hlt : ¬ (0 : Int) ≤ ((0 : Nat) : Int) - 1 := by omega
          go_wp2_with fail
          go_roundg 1
          case measure => omega
          case rel => exact ⟨1, 0, 0, by go_num, by omega, by omega, rfl, rfl, rfl, Lib.hid ⟨by unfold doneAt; simp, by unfold doneAt; simp⟩⟩
        | succ j =>
          have hj1 : ((j + 1 : Nat) : Int) - 1 = (j : Int) := by omega
          rw [hj1]
          have hlt : (0 : Int) ≤ (j : Int) := by omega
          go_wp2_with fail
          go_roundg j
          case measure => omega
          case rel => exact ⟨j, by go_num, by omega, by omega, by go_num, by go_num, rfl⟩
    · have hix : ∀ w, (Instr.index 111 (.agg #[.int .u64 0, .int .u64 (h : Int)]) (.int .i64 1)).run Try.prog w = .ok (.int .u64 (h : Int)) w := fun w => by kernel_rfl
      obtain ⟨rfl, rfl⟩ : q = 0 ∧ r = 0 := by
        have := HD.out
        unfold doneAt at this
        rw [if_neg (by decide), Nat.zero_div, Nat.zero_mod] at this
        exact this
      go_wp2_with fail
      go_loopg [7, 8, 11] 64 (fun kx s7 s8 s11 wr => ∃ j q r : Nat, s11 = .int .i64 ((j : Int) - 1) ∧ j ≤ 64 ∧ j ≤ kx ∧ s7 = .int .u64 (q : Int) ∧ s8 = .int .u64 (r : Int) ∧ wr = w.alloc (.cells #[.int .u64 0, .int .u64 h] 111) ∧ Hid (q = topB h (64 - j) / c ∧ r = topB h (64 - j) % c))
      case atStart => exact ⟨64, 0, 0, by go_num, by omega, by omega, by go_num, by go_num, rfl, Lib.hid ⟨by rw [Nat.sub_self, topB_zero h hh, Nat.zero_div], by rw [Nat.sub_self, topB_zero h hh, Nat.zero_mod]⟩⟩
      case round =>
        obtain ⟨j, q, r, rfl, hj, hjx, rfl, rfl, rfl, HJ⟩ := hrel
        cases j with
        | zero =>
          have hlt : ¬ (0 : Int) ≤ ((0 : Nat) : Int) - 1 := by omega
          go_wp2_with fail
          go_roundg 0
          case measure => omega
          case rel => exact ⟨2, q, r, by go_num, by omega, by omega, rfl, rfl, rfl, Lib.hid (by have := HJ.out; rw [Nat.sub_zero, topB_all] at this; unfold doneAt; rw [if_pos rfl]; exact this)⟩
        | succ j =>
          have hj1 : ((j + 1 : Nat) : Int) - 1 = (j : Int) := by omega
          rw [hj1]
          have hlt : (0 : Int) ≤ (j : Int) := by omega
          have hts := topB_succ h (64 - (j + 1)) (by omega)
          rw [show 64 - (j + 1) + 1 = 64 - j by omega, show 63 - (64 - (j + 1)) = j by omega] at hts
          have htl := topB_le h (64 - (j + 1))
          obtain ⟨v, hvd⟩ : ∃ v, v = h / 2 ^ j := ⟨_, rfl⟩
          have hvl : v ≤ h := by rw [hvd]; exact Nat.div_le_self _ _
          have hv : (h : Int) / 2 ^ j = (v : Int) := by rw [hvd]; push_cast; rfl
          have hmn : min j 64 = j := by omega
          rw [← hvd] at hts
          have hbt : v % 2 < 2 := Nat.mod_lt _ (by omega)
          have hand := and_one v (by omega)
          obtain ⟨b1, b2⟩ := bit_more (topB h (64 - (j + 1))) c (v % 2) hc hbt
          rw [← hts] at b1 b2
          have hql : topB h (64 - (j + 1)) / c ≤ 1152921504606846976 := Nat.le_trans (Nat.div_le_div_right htl) HQ.out
          have hrl := Nat.mod_lt (topB h (64 - (j + 1))) hc
          obtain ⟨e1, e2⟩ := HJ.out
          rw [← e1] at hql b1
          rw [← e2] at hrl b1 b2
          generalize v % 2 = bt at *
          have hor := or_one r bt (by omega) hbt
          have hcast : ((2 * r : Nat) : Int) = (r : Int) * 2 := by omega
          rw [hcast] at hor
          have hqs : ¬ (1152921504606846976 : Int) < (q : Int) := by omega
          obtain ⟨r2, hr2⟩ : ∃ r2, r2 = 2 * r + bt := ⟨_, rfl⟩
          rw [← hr2] at hor b1 b2
          have hr2l : r2 < 2305843009213693952 := by omega
          have HRC := Lib.hid (show r2 < 2 * c by omega)
          have B1 := Lib.hid b1
          have B2 := Lib.hid b2
          clear hts htl hvd b1 b2 hcast hbt hr2 e1 e2 HJ
          by_cases hge : c ≤ r2
          · have hgz : (c : Int) ≤ (r2 : Int) := by omega
            have HG := Lib.hid hge
            go_wp2_with fail
            go_roundg j
            case measure => omega
            case rel => exact ⟨j, 2 * q + 1, r2 - c, by go_num, by omega, by omega, by go_num, by go_num, rfl, Lib.hid ⟨by rw [B1.out, if_pos HG.out], by rw [B2.out, if_pos HG.out]⟩⟩
          · have hgz : ¬ (c : Int) ≤ (r2 : Int) := by omega
            have HG := Lib.hid hge
            go_wp2_with fail
            go_roundg j
            case measure => omega
            case rel => exact ⟨j, 2 * q, r2, by go_num, by omega, by omega, by go_num, by go_num, rfl, Lib.hid ⟨by rw [B1.out, if_neg HG.out, Nat.add_zero], by rw [B2.out, if_neg HG.out, Nat.sub_zero]⟩⟩
    · have hd2 : doneAt 2 h = h := rfl
      obtain ⟨e1, e2⟩ := HD.out
      rw [hd2] at e1 e2
      have HQ2 := HQ.out
      rw [← e1] at HQ2
      have E1 := Lib.hid e1; have E2 := Lib.hid e2
      have hqs : ¬ (1152921504606846976 : Int) < (q : Int) := by omega
      clear e1 e2 hd2 HD
      go_wp2_with fail
      (try rw [Exit.noGoto_ret])
      go_ret3
      exact ⟨by rw [← E1.out, ← E2.out]; rfl, HB0.out⟩
end Go.Proofs.Ytdankjhjmaehiaa.Qu

/- Quotients of products rounded up; times of bytes: the program's and the document's. -/
namespace Go.Proofs.Ytdankjhjmaehiaa.Qu
open Go.RowKit Go.Proofs.Ytdankjhjmaehiaa.Wd Go.Proofs.Ytdankjhjmaehiaa.Fl Go.Proofs.Ytdankjhjmaehiaa.St Go.Proofs.Ytdankjhjmaehiaa.Sr

theorem hold_id {n : Nat} (h : n ≤ 1152921504606846976) : hold (n : Int) = (n : Int) := by
  unfold hold
  rw [if_neg (by omega), if_neg (by omega)]
set_option maxRecDepth 20000 in
set_option maxHeartbeats 1000000 in
theorem satup_c (a b c : Nat) (ha : a < 4294967296) (hb : b < 4294967296) (hc : 0 < c) (hc6 : c ≤ 1152921504606846976) (hab : a * b ≤ 2251799813685248) (w : World) :
    Calls Try.prog 71 #[.int .i64 a, .int .i64 b, .int .i64 c] w fun e w' => e = .returned (.int .i64 (upS a b c : Int)) ∧ Below w.heap.size w w' := by
  have H1 := Lib.hid (satright_c a b c (by omega) (by omega) hc6 hc)
  have H2 := Lib.hid (mul64_c a b ha hb)
  have hql : a * b / c ≤ a * b := Nat.div_le_self _ _
  have H3 := Lib.hid (divided_c (a * b) c (by omega) hc hc6 (by omega))
  have hup := Lib.hid (show upS a b c = a * b / c + (if 0 < a * b % c then 1 else 0) from rfl)
  have hrl := Nat.mod_lt (a * b) hc
  generalize a * b / c = q at *
  generalize a * b % c = r at *
  generalize a * b = p at *
  by_cases hr : 0 < r
  · have hrz : (0 : Int) < (r : Int) := by omega
    have H4 := Lib.hid (hold_c ((q + 1 : Nat) : Int))
    rw [hold_id (by omega)] at H4
    have HUP := Lib.hid (show upS a b c = q + 1 by rw [hup.out, if_pos hr])
    have hcast : ((q + 1 : Nat) : Int) = (q : Int) + 1 := by omega
    rw [hcast] at H4
    clear hup hcast
    go_enter Try.func71, Try.ntmps71
    go_wp2_with (first
      | (go_at_call 81; (with_reducible refine (H1.out _).mono ?_); rintro e w' ⟨rfl, rfl⟩)
      | (go_at_call 82; (with_reducible refine (H2.out _).mono ?_); rintro e w' ⟨rfl, rfl⟩)
      | (go_at_call 83; (with_reducible refine (H3.out _).mono ?_); rintro e w1 ⟨rfl, hb1⟩; have HB1 := Lib.hid hb1; clear hb1)
      | (go_at_call 84; (with_reducible refine (H4.out _).mono ?_); rintro e w' ⟨rfl, rfl⟩))
    go_ret
    exact ⟨by rw [HUP.out]; rfl, HB1.out⟩
  · have hrz : ¬ (0 : Int) < (r : Int) := by omega
    have H4 := Lib.hid (hold_c (q : Int))
    rw [hold_id (by omega)] at H4
    have HUP := Lib.hid (show upS a b c = q by rw [hup.out, if_neg hr, Nat.add_zero])
    clear hup
    go_enter Try.func71, Try.ntmps71
    go_wp2_with (first
      | (go_at_call 81; (with_reducible refine (H1.out _).mono ?_); rintro e w' ⟨rfl, rfl⟩)
      | (go_at_call 82; (with_reducible refine (H2.out _).mono ?_); rintro e w' ⟨rfl, rfl⟩)
      | (go_at_call 83; (with_reducible refine (H3.out _).mono ?_); rintro e w1 ⟨rfl, hb1⟩; have HB1 := Lib.hid hb1; clear hb1)
      | (go_at_call 84; (with_reducible refine (H4.out _).mono ?_); rintro e w' ⟨rfl, rfl⟩))
    go_ret
    exact ⟨by rw [HUP.out]; rfl, HB1.out⟩
set_option maxRecDepth 20000 in
set_option maxHeartbeats 1000000 in
theorem refup_c (a b c : Nat) (ha : a ≤ 1152921504606846976) (hb : b ≤ 1152921504606846976) (hc : 0 < c) (hc6 : c ≤ 1152921504606846976) (hab : a * b ≤ 2251799813685248) (w : World) :
    Calls Try.prog 58 #[.int .i64 a, .int .i64 b, .int .i64 c] w fun e w' => e = .returned (.int .i64 (upS a b c : Int)) ∧ w = w' := by
  have H1 := Lib.hid (refsatright_c a b c ha hb hc6 hc)
  have hql : a * b / c ≤ a * b := Nat.div_le_self _ _
  have H3 := Lib.hid (part_c 61 a (by omega) b c hc hc6 hb ha (by omega))
  have hup := Lib.hid (show upS a b c = a * b / c + (if 0 < a * b % c then 1 else 0) from rfl)
  have hrl := Nat.mod_lt (a * b) hc
  generalize a * b / c = q at *
  generalize a * b % c = r at *
  by_cases hr : 0 < r
  · have hrz : (0 : Int) < (r : Int) := by omega
    have H4 := Lib.hid (refhold_c ((q + 1 : Nat) : Int))
    rw [hold_id (by omega)] at H4
    have HUP := Lib.hid (show upS a b c = q + 1 by rw [hup.out, if_pos hr])
    have hcast : ((q + 1 : Nat) : Int) = (q : Int) + 1 := by omega
    rw [hcast] at H4
    clear hup hcast
    go_enter Try.func58, Try.ntmps58
    go_wp2_with (first
      | (go_at_call 74; (with_reducible refine (H1.out _).mono ?_); rintro e w' ⟨rfl, rfl⟩)
      | (go_at_call 75; (with_reducible refine (H3.out _).mono ?_); rintro e w' ⟨rfl, rfl⟩)
      | (go_at_call 76; (with_reducible refine (H4.out _).mono ?_); rintro e w' ⟨rfl, rfl⟩))
    go_ret
    exact ⟨by rw [HUP.out]; rfl, rfl⟩
  · have hrz : ¬ (0 : Int) < (r : Int) := by omega
    have H4 := Lib.hid (refhold_c (q : Int))
    rw [hold_id (by omega)] at H4
    have HUP := Lib.hid (show upS a b c = q by rw [hup.out, if_neg hr, Nat.add_zero])
    clear hup
    go_enter Try.func58, Try.ntmps58
    go_wp2_with (first
      | (go_at_call 74; (with_reducible refine (H1.out _).mono ?_); rintro e w' ⟨rfl, rfl⟩)
      | (go_at_call 75; (with_reducible refine (H3.out _).mono ?_); rintro e w' ⟨rfl, rfl⟩)
      | (go_at_call 76; (with_reducible refine (H4.out _).mono ?_); rintro e w' ⟨rfl, rfl⟩))
    go_ret
    exact ⟨by rw [HUP.out]; rfl, rfl⟩
/-- the ticks of so many bytes -/
def exactS (tpb u n : Int) : Nat := if rateI tpb u = true then timeC tpb.toNat u.toNat (cellsS n) else 0
theorem nat_of {x : Int} (h : 1 ≤ x) : ∃ k : Nat, x = (k : Int) ∧ x.toNat = k := ⟨x.toNat, by omega, rfl⟩
set_option maxRecDepth 20000 in
set_option maxHeartbeats 1000000 in
theorem exact_c (tpb u n : Int) (w : World) : Calls Try.prog 53 #[.int .i64 tpb, .int .i64 u, .int .i64 n] w fun e w' => e = .returned (.int .i64 (exactS tpb u n : Int)) ∧ Below w.heap.size w w' := by
  have H1 := Lib.hid (rright_c tpb u)
  have H2 := Lib.hid (cells_c n)
  have hcl := cells_le n
  have hex := Lib.hid (show exactS tpb u n = if rateI tpb u = true then timeC tpb.toNat u.toNat (cellsS n) else 0 from rfl)
  obtain ⟨q, hq⟩ : ∃ q, q = rateI tpb u := ⟨_, rfl⟩
  rw [← hq] at H1
  cases q with
  | false =>
    have HX := Lib.hid (show exactS tpb u n = 0 by rw [hex.out, ← hq]; rfl)
    clear hex hq
    go_enter Try.func53, Try.ntmps53
    go_wp2_with (go_at_call 52; (with_reducible refine (H1.out _).mono ?_); rintro e w' ⟨rfl, rfl⟩)
    go_ret
    exact ⟨by rw [HX.out]; rfl, Below.refl _ _⟩
  | true =>
    obtain ⟨t1, t2, u1, u2⟩ := rateI_true hq.symm
    obtain ⟨t, ht, htn⟩ := nat_of t1
    obtain ⟨v, hv, hvn⟩ := nat_of u1
    have HX := Lib.hid (show exactS tpb u n = upS (8 * cellsS n * t) 1048576 v by rw [hex.out, ← hq, if_pos rfl, htn, hvn]; rfl)
    subst ht hv
    have hsm := timeC_small t v (cellsS n) (by omega) hcl
    clear hex hq htn hvn
    generalize cellsS n = k at *
    have H3 := Lib.hid (satup_c (8 * k * t) 1048576 v (by omega) (by omega) (by omega) (by omega) hsm)
    have hm : 8 * (k : Int) * (t : Int) = ((8 * k * t : Nat) : Int) := by push_cast; rfl
    have hml : 8 * k * t ≤ 2147483648 := by omega
    generalize 8 * k * t = m at *
    go_enter Try.func53, Try.ntmps53
    go_wp2_with (first
      | (go_at_call 52; (with_reducible refine (H1.out _).mono ?_); rintro e w' ⟨rfl, rfl⟩)
      | (go_at_call 54; (with_reducible refine (H2.out _).mono ?_); rintro e w' ⟨rfl, rfl⟩)
      | (go_at_call 71; (refine (H3.out _).mono ?_); rintro e w1 ⟨rfl, hb1⟩; have HB1 := Lib.hid hb1; clear hb1))
    go_ret
    exact ⟨by rw [HX.out]; rfl, HB1.out⟩
set_option maxRecDepth 20000 in
set_option maxHeartbeats 1000000 in
theorem refexact_c (tpb u n : Int) (hn : (Lit.int .i64 n).wf = true) (w : World) : Calls Try.prog 40 #[.int .i64 tpb, .int .i64 u, .int .i64 n] w fun e w' => e = .returned (.int .i64 (exactS tpb u n : Int)) ∧ w = w' := by
  have H1 := Lib.hid (refright_c tpb u)
  have H2 := Lib.hid (refcells_c n hn)
  have hcl := cells_le n
  have hex := Lib.hid (show exactS tpb u n = if rateI tpb u = true then timeC tpb.toNat u.toNat (cellsS n) else 0 from rfl)
  obtain ⟨q, hq⟩ : ∃ q, q = rateI tpb u := ⟨_, rfl⟩
  rw [← hq] at H1
  cases q with
  | false =>
    have HX := Lib.hid (show exactS tpb u n = 0 by rw [hex.out, ← hq]; rfl)
    clear hex hq
    go_enter Try.func40, Try.ntmps40
    go_wp2_with (go_at_call 57; (with_reducible refine (H1.out _).mono ?_); rintro e w' ⟨rfl, rfl⟩)
    go_ret
    exact ⟨by rw [HX.out]; rfl, rfl⟩
  | true =>
    obtain ⟨t1, t2, u1, u2⟩ := rateI_true hq.symm
    obtain ⟨t, ht, htn⟩ := nat_of t1
    obtain ⟨v, hv, hvn⟩ := nat_of u1
    have HX := Lib.hid (show exactS tpb u n = upS (8 * cellsS n * t) 1048576 v by rw [hex.out, ← hq, if_pos rfl, htn, hvn]; rfl)
    subst ht hv
    have hsm := timeC_small t v (cellsS n) (by omega) hcl
    clear hex hq htn hvn
    generalize cellsS n = k at *
    have H3 := Lib.hid (refup_c (8 * k * t) 1048576 v (by omega) (by omega) (by omega) (by omega) hsm)
    have hm : 8 * (k : Int) * (t : Int) = ((8 * k * t : Nat) : Int) := by push_cast; rfl
    have hml : 8 * k * t ≤ 2147483648 := by omega
    generalize 8 * k * t = m at *
    go_enter Try.func40, Try.ntmps40
    go_wp2_with (first
      | (go_at_call 57; (with_reducible refine (H1.out _).mono ?_); rintro e w' ⟨rfl, rfl⟩)
      | (go_at_call 59; (with_reducible refine (H2.out _).mono ?_); rintro e w' ⟨rfl, rfl⟩)
      | (go_at_call 58; (refine (H3.out _).mono ?_); rintro e w1 ⟨rfl, rfl⟩))
    go_ret
    exact ⟨by rw [HX.out]; rfl, rfl⟩
end Go.Proofs.Ytdankjhjmaehiaa.Qu

/- Tables of times. -/
namespace Go.Proofs.Ytdankjhjmaehiaa.Qu
open Go.RowKit Go.Shelf Go.Maps Go.Proofs.Ytdankjhjmaehiaa.Wd Go.Proofs.Ytdankjhjmaehiaa.Fl Go.Proofs.Ytdankjhjmaehiaa.St Go.Proofs.Ytdankjhjmaehiaa.Sr
attribute [local go_sem] Lx.opX Rel.oneOk
attribute [local irreducible] Lx.wpX

/-- the first k times -/
def tabP (tpb u : Int) (k : Nat) : List Value := (List.range 257).map (fun i => if i < k then .int .i64 (exactS tpb u ((i : Int) * 8) : Int) else .int .i64 0)
theorem tabP_zero (tpb u : Int) : tabP tpb u 0 = List.replicate 257 (.int .i64 0) := by
  unfold tabP
  apply List.ext_getElem?
  intro i
  rw [List.getElem?_map, List.getElem?_replicate]
  by_cases h : i < 257
  · rw [List.getElem?_range h, if_pos h]; rfl
  · rw [List.getElem?_eq_none (by simpa using h), if_neg h]; rfl
theorem tabP_at (tpb u : Int) (k i : Nat) (hi : i < 257) : (tabP tpb u k)[i]? = some (if i < k then .int .i64 (exactS tpb u ((i : Int) * 8) : Int) else .int .i64 0) := by
  unfold tabP; rw [List.getElem?_map, List.getElem?_range hi]; rfl
theorem tabP_len (tpb u : Int) (k : Nat) : (tabP tpb u k).length = 257 := by unfold tabP; rw [List.length_map, List.length_range]
theorem tabP_set (tpb u : Int) (k : Nat) (hk : k < 257) : (tabP tpb u k).set k (.int .i64 (exactS tpb u ((k : Int) * 8) : Int)) = tabP tpb u (k + 1) := by
  apply List.ext_getElem?
  intro i
  by_cases hi : i < 257
  · rw [List.getElem?_set]
    by_cases he : k = i
    · subst he; rw [if_pos rfl, if_pos (by rw [tabP_len]; exact hk), tabP_at _ _ _ _ hi, if_pos (Nat.lt_succ_self k)]
    · rw [if_neg he, tabP_at _ _ _ _ hi, tabP_at _ _ _ _ hi]
      by_cases hl : i < k
      · rw [if_pos hl, if_pos (by omega)]
      · rw [if_neg hl, if_neg (by omega)]
  · rw [List.getElem?_eq_none (by rw [List.length_set, tabP_len]; omega), List.getElem?_eq_none (by rw [tabP_len]; omega)]
def tabS (tpb u : Int) : List Value := tabP tpb u 257
theorem wpList_copy {P : Program} {ops : Array Oper} {rest : List Oper} {o : Oper} {a : Act} {Q : Exit → Act → World → Prop} {w : World} (hgd : o.guard = none) (x y : Operand) (dT sT : TypeId)
    (ho : o.op = .call { callee := .builtin .copy, args := #[x, y], argTypes := #[dT, sT] }) (X Y : Value) (hX : a.eval x = X) (hY : a.eval y = Y) (r : Value) (w' : World) (hrun : ∀ ty, (Builtin.copy_ #[dT, sT] ty #[X, Y]).run P w = .ok r w') (h : wpList P ops Q rest (a.put o.dst r) w') : wpList P ops Q (o :: rest) a w := by
  subst hX hY
  refine wpList_plain hgd fun K hK => ?_
  have he : (execOp a.eval o).run P w = .ok (.value r) w' := by
    simp [execOp, ho, resolve, invoke, builtin, hrun, Result.andThen]
  unfold Oper.wp
  rw [he]
  exact hK _ _ h
def NewTab (tpb u : Int) (w : World) (e : Ending) (w' : World) : Prop :=
  (rateI tpb u = false ∧ e = .returned (.tuple #[.pointer none, .int .i64 2]) ∧ Below w.heap.size w w') ∨
  (rateI tpb u = true ∧ ∃ T, e = .returned (.tuple #[.pointer (some ⟨T, 0, none⟩), .int .i64 0]) ∧ Row w' T 90 (tabS tpb u) ∧ w.heap.size ≤ T ∧ Below w.heap.size w w')
set_option maxRecDepth 20000 in
set_option maxHeartbeats 1000000 in
theorem newtab_c (tpb u : Int) (w : World) : Calls Try.prog 31 #[.int .i64 tpb, .int .i64 u] w (NewTab tpb u w) := by
  have H1 := Lib.hid (rright_c tpb u)
  have H2 := Lib.hid (fun n w => exact_c tpb u n w)
  obtain ⟨q, hq⟩ : ∃ q, q = rateI tpb u := ⟨_, rfl⟩
  have HQ := Lib.hid hq
  rw [← hq] at H1
  clear hq
  cases q with
  | false =>
    go_enter Try.func31, Try.ntmps31
    go_wp2_with (go_at_call 52; (with_reducible refine (H1.out _).mono ?_); rintro e w' ⟨rfl, rfl⟩)
    go_ret2
    exact .inl ⟨HQ.out.symm, rfl, Below.refl _ _⟩
  | true =>
    have hzc : Try.zeroCells88 = (List.replicate 257 (Value.int .i64 0)).toArray := by kernel_rfl
    have hrow := row_new w 88 (List.replicate 257 (.int .i64 0))
    rw [← hzc, ← tabP_zero tpb u] at hrow
    have hB0 : Below w.heap.size w (w.alloc (.cells Try.zeroCells88 88)) := (Below.refl _ w).alloc (Nat.le_refl _) _
    have HR0 := Lib.hid hrow; have HB0 := Lib.hid hB0
    clear hrow hB0 hzc
    go_enter Try.func31, Try.ntmps31
    go_wp2_with (go_at_call 52; (with_reducible refine (H1.out _).mono ?_); rintro e w' ⟨rfl, rfl⟩)
    go_loopg [13] 257 (fun kx s13 wr => ∃ k : Nat, s13 = .int .i64 k ∧ k ≤ 257 ∧ 257 - k ≤ kx ∧ Hid (Row wr w.heap.size 88 (tabP tpb u k)) ∧ Hid (Below w.heap.size w wr))
    case atStart => exact ⟨0, rfl, by omega, by omega, HR0, HB0⟩
    case round =>
      obtain ⟨k, rfl, hk, hkx, HR, HW⟩ := hrel
      have hwz := HW.out.size
      clear HR0 HB0
      by_cases hlt : k < 257
      · have hltz : (k : Int) < 257 := by omega
        have hex := Lib.hid (H2.out ((k : Int) * 8) wr)
        have HSET := Lib.hid (tabP_set tpb u k hlt)
        have HAT := Lib.hid (tabP_at tpb u k k hlt)
        generalize exactS tpb u ((k : Int) * 8) = x at *
        go_upto_region 7 with fail
        have hlr := HR.out.lt
        go_wp2_with (go_at_call 53; (with_reducible refine (hex.out).mono ?_); rintro e w2 ⟨rfl, hb2⟩; have HB2 := Lib.hid hb2; have hr2 := HR.out.below hb2 hlr; have hc2 := hr2.cell k; rw [HAT.out] at hc2; have hf2 := hr2.frozen k; have HR2 := Lib.hid hr2; clear hb2 hr2)
        go_roundg (257 - (k + 1))
        case measure => omega
        case rel => exact ⟨k + 1, by go_num, by omega, by omega, Lib.hid (by rw [← HSET.out]; exact HR2.out.set k _), Lib.hid ((HW.out.trans (HB2.out.mono hwz)).setCell (by simp) _)⟩
      · have hltz : ¬ (k : Int) < 257 := by omega
        obtain rfl : k = 257 := by omega
        go_upto_region 10 with fail
        have hlw := HR.out.lt
        have hzc : Try.zeroCells90 = (List.replicate 257 (Value.int .i64 0)).toArray := by kernel_rfl
        have hHT := heap_alloc_new wr (.cells Try.zeroCells90 90)
        have hrw := HR.out.alloc (.cells Try.zeroCells90 90)
        have HZ := Lib.hid hzc; have HT := Lib.hid hHT; have HRW := Lib.hid hrw
        clear hzc hHT hrw
        refine Lx.wp_region_X 5 (fun w' => ∃ z, w' = Lx.kept (fun _ => False) (wr.alloc (.cells Try.zeroCells90 90)).drew z) (fun _ => false) (by kernel_rfl) (by kernel_rfl) (Lx.kept_of (Lx.Keeps.refl _ _)) ?_
        simp only [List.take_succ_cons, List.take_zero, List.drop_succ_cons, List.drop_zero]
        repeat (refine Lx.wpX_step (fun K hK => ?_); first | (refine Lx.opX_free (by rfl) (by rfl) (by rfl) ?_; go_big_quiet_op; refine hK _ _ ?_; clear hK K) | (refine Lx.opX_nil (by rfl) (by rfl) (by rfl) (by rfl) ?_; refine hK _ _ ?_; clear hK K; simp only [Act.put, List.setIfInBounds_toArray, List.set_cons_succ, List.set_cons_zero]))
        refine Lx.wpX_nil ?_
        have hcp : ∀ ty, (Builtin.copy_ #[44, 44] ty #[.slice (some ⟨wr.heap.size, 0, none⟩) 257 257, .slice (some ⟨w.heap.size, 0, none⟩) 257 257]).run Try.prog (wr.alloc (.cells Try.zeroCells90 90)).drew = .ok (goInt 257) ((wr.alloc (.cells Try.zeroCells90 90)).drew.setRow wr.heap.size (tabS tpb u).toArray) := fun ty => by
          have hl : (tabS tpb u).length = 257 := tabP_len tpb u 257
          have h := run_copy_row (P := Try.prog) (wr.alloc (.cells Try.zeroCells90 90)).drew 44 44 ty 3 wr.heap.size 0 257 257 ⟨w.heap.size, 0, none⟩ 257 257 Try.zeroCells90 90 (tabS tpb u) Try.underlying44 (by kernel_rfl) HT.out (by rw [hl]; rfl)
            (fun j v hv => by rw [add_zero_at]; rw [← hv]; exact HRW.out.cell j) (by rw [hl, HZ.out]; simp) (fun v hv => by
              obtain ⟨j, hj⟩ := List.getElem?_of_mem hv
              have hj2 : j < 257 := by have := (List.getElem?_eq_some_iff.1 hj).1; omega
              have := tabP_at tpb u 257 j hj2
              rw [if_pos hj2] at this
              rw [show (tabS tpb u)[j]? = (tabP tpb u 257)[j]? from rfl, this] at hj
              injection hj with hj; subst hj; rfl)
          rw [h, hl]
          have e : (Try.zeroCells90.toList.take 0 ++ tabS tpb u ++ Try.zeroCells90.toList.drop (0 + 257)) = tabS tpb u := by
            rw [HZ.out]; simp
          rw [e]
          rfl
        have hHf := setRow_heap (wr.alloc (.cells Try.zeroCells90 90)).drew wr.heap.size Try.zeroCells90 (tabS tpb u).toArray 90 (0, 0) HT.out
        have hGf := Sw.setRow_grown (wr.alloc (.cells Try.zeroCells90 90)).drew wr.heap.size (tabS tpb u).toArray
        have hBf : Below w.heap.size w ((wr.alloc (.cells Try.zeroCells90 90)).drew.setRow wr.heap.size (tabS tpb u).toArray) := ((HW.out.alloc hwz _).drew).grown hGf (by simp; omega) (fun q hq => by injection hq with hq; omega)
        have HCP := Lib.hid hcp; have HHF := Lib.hid hHf; have HBF := Lib.hid hBf
        clear hcp hHf hGf hBf
        generalize World.setRow _ _ _ = wf at *
        refine wpList_copy (by rfl) _ _ 44 44 (by rfl) _ _ (by rfl) (by rfl) (goInt 257) wf HCP.out ?_
        go_wp2
        go_ret2
        exact .inr ⟨HQ.out.symm, wr.heap.size, rfl, HHF.out, hwz, HBF.out⟩
end Go.Proofs.Ytdankjhjmaehiaa.Qu
