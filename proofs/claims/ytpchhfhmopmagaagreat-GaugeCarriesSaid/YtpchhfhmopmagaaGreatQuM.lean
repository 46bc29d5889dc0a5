/- Floats that are whole numbers of 2^-20: sums, quotients by 2^20. Quotients of products, told plainly: bit by bit; by halves. A quota's rows as elements of a map; times of bytes, told plainly. Ldexp down by 20; share.Of. Quotas, told plainly: what classes have, what is spare; leaves have no more together than the root. Shares: Of, Total, Same: the program's and the document's. Cells of bytes; whether a table may be. Quotients of products: sat.Up and the document's. Bit by bit; by halves. sat.divided: bit by bit. Quotients of products rounded up; times of bytes: the program's and the document's. Tables of times. A table's times; what is spare; Check. quota.New. What a quota tells: of a class; of all leaves. A quota's methods. The document's quotas. What all leaves have together. -/
import Derived.Test.YtpchhfhmopmagaaGreatUn2
import Derived.Test.YtpchhfhmopmagaaGreatMp
import Derived.Test.YtpchhfhmopmagaaGreatClM
import Derived.Test.YtpchhfhmopmagaaGreatTp6
import Derived.Test.YtpchhfhmopmagaaGreatSrM
import Derived.Shelf.Bits.Mul64
import Derived.Laws.Bits64b
import Derived.Deep.LoopGhost
import Derived.WalkMore
import Derived.OwnWalk
import Derived.Test.YtpchhfhmopmagaaGreatLxM
import Derived.Test.YtpchhfhmopmagaaGreatSw
import Derived.Laws.CopyRow
import Derived.Test.YtpchhfhmopmagaaGreatTr12
set_option linter.unusedVariables false
set_option linter.unusedSimpArgs false
/- Floats that are whole numbers of 2^-20: sums, quotients by 2^20. Quotients of products, told plainly: bit by bit; by halves. A quota's rows as elements of a map; times of bytes, told plainly. -/
/- Floats that are whole numbers of 2^-20: sums, quotients by 2^20. -/
namespace Go.Proofs.YtpchhfhmopmagaaGreat.Qu
open Go.RowKit Go.Proofs.YtpchhfhmopmagaaGreat.Fl Go.Proofs.YtpchhfhmopmagaaGreat.St

end Go.Proofs.YtpchhfhmopmagaaGreat.Qu

/- Quotients of products, told plainly: bit by bit; by halves. -/
namespace Go.Proofs.YtpchhfhmopmagaaGreat.Qu

/-- one bit more -/
theorem bit_more (N c b : Nat) (hc : 0 < c) (hb : b < 2) : (2 * N + b) / c = 2 * (N / c) + (if c ≤ 2 * (N % c) + b then 1 else 0) ∧ (2 * N + b) % c = 2 * (N % c) + b - (if c ≤ 2 * (N % c) + b then c else 0) := by
  have h1 := Nat.div_add_mod N c
  have h2 := Nat.mod_lt N hc
  generalize N / c = q at *
  generalize N % c = r at *
  subst h1
  split
  · have e : 2 * (c * q + r) + b = (2 * r + b - c) + c * (2 * q + 1) := by
      rw [Nat.mul_add, Nat.mul_left_comm, Nat.mul_add c, Nat.mul_one]; omega
    rw [e, Nat.add_mul_div_left _ _ hc, Nat.add_mul_mod_self_left, Nat.div_eq_of_lt (by omega), Nat.mod_eq_of_lt (by omega)]
    omega
  · have e : 2 * (c * q + r) + b = (2 * r + b) + c * (2 * q) := by
      rw [Nat.mul_add, Nat.mul_left_comm]; omega
    rw [e, Nat.add_mul_div_left _ _ hc, Nat.add_mul_mod_self_left, Nat.div_eq_of_lt (by omega), Nat.mod_eq_of_lt (by omega)]
    omega
/-- the bits of h from the top, k of 64 of them -/
def topB (h k : Nat) : Nat := h / 2 ^ (64 - k)
theorem topB_zero (h : Nat) (hh : h < 2 ^ 64) : topB h 0 = 0 := Nat.div_eq_of_lt hh
theorem topB_all (h : Nat) : topB h 64 = h := by unfold topB; simp
theorem topB_succ (h k : Nat) (hk : k < 64) : topB h (k + 1) = 2 * topB h k + h / 2 ^ (63 - k) % 2 := by
  unfold topB
  have e : 64 - k = (63 - k) + 1 := by omega
  have e2 : 64 - (k + 1) = 63 - k := by omega
  rw [e, e2, Nat.pow_succ, ← Nat.div_div_eq_div_mul]
  omega
theorem topB_le (h k : Nat) : topB h k ≤ h := Nat.div_le_self _ _
/-- the halves of a, one by one -/
theorem half_step (a b c : Nat) (hc : 0 < c) : a * b / c = 2 * (a / 2 * b / c) + (if a % 2 = 1 then b / c else 0) + (2 * (a / 2 * b % c) + (if a % 2 = 1 then b % c else 0)) / c ∧ a * b % c = (2 * (a / 2 * b % c) + (if a % 2 = 1 then b % c else 0)) % c := by
  have ha := Nat.div_add_mod a 2
  have h1 := Nat.div_add_mod (a / 2 * b) c
  have h2 := Nat.div_add_mod b c
  have h3 := Nat.mod_lt a (by omega : 0 < 2)
  generalize hq : a / 2 * b / c = q at *
  generalize hr : a / 2 * b % c = r at *
  generalize hq2 : b / c = q2 at *
  generalize hr2 : b % c = r2 at *
  have e : a * b = 2 * (a / 2 * b) + a % 2 * b := by
    conv => lhs; rw [← ha]
    rw [Nat.add_mul, Nat.mul_assoc]
  by_cases ho : a % 2 = 1
  · rw [if_pos ho, if_pos ho]
    rw [ho, Nat.one_mul] at e
    have e2 : a * b = (2 * r + r2) + c * (2 * q + q2) := by
      rw [e, ← h1]
      conv => lhs; rw [← h2]
      rw [Nat.mul_add, Nat.mul_left_comm, Nat.mul_add c]; omega
    rw [e2, Nat.add_mul_div_left _ _ hc, Nat.add_mul_mod_self_left]
    omega
  · rw [if_neg ho, if_neg ho]
    have h0 : a % 2 = 0 := by omega
    rw [h0, Nat.zero_mul, Nat.add_zero] at e
    have e2 : a * b = (2 * r) + c * (2 * q) := by
      rw [e, ← h1, Nat.mul_add, Nat.mul_left_comm]; omega
    rw [e2, Nat.add_mul_div_left _ _ hc, Nat.add_mul_mod_self_left]
    exact ⟨by rw [Nat.add_zero, Nat.add_zero]; exact Nat.add_comm _ _, by rw [Nat.add_zero]⟩
end Go.Proofs.YtpchhfhmopmagaaGreat.Qu

/- A quota's rows as elements of a map; times of bytes, told plainly. -/
namespace Go.Proofs.YtpchhfhmopmagaaGreat.Qu
open Go.Proofs.YtpchhfhmopmagaaGreat.Fl Go.Proofs.YtpchhfhmopmagaaGreat.Mp

/-- what a class has: its units, what is spare, its table's block -/
structure Rw where
  u : Int
  s : Int
  t : Option Nat
def Rw.val (r : Rw) : Value := .agg #[.int .i64 r.u, .int .i64 r.s, .pointer (r.t.map fun b => ⟨b, 0, none⟩)]
def Rw.nil : Rw := ⟨0, 0, none⟩
def Rw.enc (r : Rw) : DataW Unit := .agg [.lit (.int .i64 r.u), .lit (.int .i64 r.s), match r.t with | none => .nil | some b => natL b]
theorem rw_kind : Kind Rw.val Rw.enc where
  agg a b h := by
    obtain ⟨u, s, t⟩ := a; obtain ⟨u', s', t'⟩ := b
    unfold Rw.val at h
    cases t <;> cases t' <;> simp_all
  enc a b h := by
    obtain ⟨u, s, t⟩ := a; obtain ⟨u', s', t'⟩ := b
    cases t <;> cases t' <;> simp [Rw.enc, natL] at h <;> first | (simp [h]; done) | (simp [h]; omega)
/-- the cells of 8 bytes that so many bytes take, 256 at most -/
def cellsS (n : Int) : Nat := ((max 0 (min n 2048)).toNat + 7) / 8
theorem cells_le (n : Int) : cellsS n ≤ 256 := by unfold cellsS; omega
theorem cells_mul (k : Nat) (h : k ≤ 256) : cellsS ((k : Int) * 8) = k := by unfold cellsS; omega
/-- the ticks of so many cells -/
def upS (a b c : Nat) : Nat := a * b / c + (if 0 < a * b % c then 1 else 0)
def timeC (tpb : Nat) (u k : Nat) : Nat := upS (8 * k * tpb) 1048576 u
theorem timeC_small (tpb _u k : Nat) (ht : tpb ≤ 1048576) (hk : k ≤ 256) : 8 * k * tpb * 1048576 ≤ 2251799813685248 := by
  have h1 : 8 * k * tpb ≤ 8 * 256 * 1048576 := Nat.mul_le_mul (Nat.mul_le_mul_left _ hk) ht
  exact Nat.le_trans (Nat.mul_le_mul_right _ h1) (by decide)
end Go.Proofs.YtpchhfhmopmagaaGreat.Qu

/- Ldexp down by 20; share.Of. -/
namespace Go.Proofs.YtpchhfhmopmagaaGreat.Qu
open Go.RowKit Go.Proofs.YtpchhfhmopmagaaGreat.Fl Go.Proofs.YtpchhfhmopmagaaGreat.Wd Go.Proofs.YtpchhfhmopmagaaGreat.St Go.Proofs.YtpchhfhmopmagaaGreat.Cl

end Go.Proofs.YtpchhfhmopmagaaGreat.Qu

/- Quotas, told plainly: what classes have, what is spare; leaves have no more together than the root. -/
namespace Go.Proofs.YtpchhfhmopmagaaGreat.Qu
open Go.Proofs.YtpchhfhmopmagaaGreat.Fl Go.Proofs.YtpchhfhmopmagaaGreat.Tp Go.Proofs.YtpchhfhmopmagaaGreat.Tr Go.Proofs.YtpchhfhmopmagaaGreat.Cl Go.Proofs.YtpchhfhmopmagaaGreat.So
variable {l : List Cls}

/-- a class's units -/
def uOf (c : Cls) : Nat := (unitsS c.share).1
def uAt (l : List Cls) (id : Int) : Nat := ((at? l id).map uOf).getD 0
/-- what is left of a class's units when its children have theirs -/
def spareS (l : List Cls) (id : Int) : Int := (uAt l id : Int) - (((kids l id).map (uAt l)).sum : Nat)
/-- is nothing given twice? -/
def quotaB (l : List Cls) : Bool := (ids l).all (fun i => decide (0 ≤ spareS l i))
theorem uAt_some {id : Int} {c : Cls} (h : at? l id = some c) : uAt l id = uOf c := by unfold uAt; rw [h]; rfl
theorem uAt_none {id : Int} (h : at? l id = none) : uAt l id = 0 := by unfold uAt; rw [h]; rfl
theorem uOf_le (c : Cls) (h : c.share < 18446744073709551616) : uOf c ≤ 1048576 := by
  unfold uOf unitsS
  split
  · simp
  · split
    · simp
    · rename_i h1 h2
      simp only [Bool.or_eq_true, not_or] at h2
      have hn : nan c.share = false := by simpa using h1
      rcases in_bounds h hn (by simpa using h2.1) (by simpa using h2.2) with h | h
      · have hm : c.share % 9223372036854775808 = c.share := by have : one = 4607182418800017408 := rfl; omega
        show rhe _ ≤ _
        rw [hm]; exact rhe_le (small_mag h)
      · show rhe _ ≤ _
        rw [h, show 9223372036854775808 % 9223372036854775808 = 0 from rfl, mag_zero, Nat.zero_mul, rhe_zero]; omega
theorem uOf_pos (c : Cls) (h : rightS c = 0) : 1 ≤ uOf c := by
  unfold rightS at h
  split at h
  · cases h
  · split at h
    · cases h
    · split at h
      · rename_i h1; exact absurd h h1
      · rename_i h1
        have h2 : fairS c.share = 0 := by omega
        unfold fairS at h2
        split at h2
        · cases h2
        · split at h2
          · cases h2
          · rename_i h3
            unfold uOf
            omega
theorem sum_le {α : Type} (f : α → Nat) (m : Nat) : ∀ (zs : List α), (∀ z ∈ zs, f z ≤ m) → (zs.map f).sum ≤ zs.length * m
  | [], _ => by simp
  | z :: zs, h => by
    have h1 := h z (by simp)
    have h2 := sum_le f m zs (fun y hy => h y (by simp [hy]))
    simp only [List.map_cons, List.sum_cons, List.length_cons, Nat.add_mul]
    omega
/-- leaves below, by their units -/
def lf (l : List Cls) (zs : List Int) : Nat := ((zs.filter (fun i => decide ((kids l i).length = 0))).map (uAt l)).sum
theorem quota_all (h : quotaB l = true) : ∀ i ∈ ids l, 0 ≤ spareS l i := fun i hi => of_decide_eq_true (List.all_eq_true.1 h i hi)
theorem uAt_pos (R : Tp.Tree l) {i : Int} (h : i ∈ ids l) : 1 ≤ uAt l i := by
  obtain ⟨c, hc⟩ := at_of_mem h
  rw [uAt_some hc]
  exact uOf_pos c (R.right c (at_mem hc).1)
theorem uAt_le (hs : ∀ c ∈ l, c.share < 18446744073709551616) (i : Int) : uAt l i ≤ 1048576 := by
  cases h : at? l i with
  | none => rw [uAt_none h]; omega
  | some c => rw [uAt_some h]; exact uOf_le c (hs c (at_mem h).1)
end Go.Proofs.YtpchhfhmopmagaaGreat.Qu

/- Shares: Of, Total, Same: the program's and the document's. -/
namespace Go.Proofs.YtpchhfhmopmagaaGreat.Qu
open Go.RowKit Go.Proofs.YtpchhfhmopmagaaGreat.Wd Go.Proofs.YtpchhfhmopmagaaGreat.Fl Go.Proofs.YtpchhfhmopmagaaGreat.St Go.Proofs.YtpchhfhmopmagaaGreat.Cl

end Go.Proofs.YtpchhfhmopmagaaGreat.Qu

/- Cells of bytes; whether a table may be. Quotients of products: sat.Up and the document's. Bit by bit; by halves. sat.divided: bit by bit. Quotients of products rounded up; times of bytes: the program's and the document's. Tables of times. -/
/- Cells of bytes; whether a table may be. -/
namespace Go.Proofs.YtpchhfhmopmagaaGreat.Qu
open Go.RowKit Go.Proofs.YtpchhfhmopmagaaGreat.Wd Go.Proofs.YtpchhfhmopmagaaGreat.Fl Go.Proofs.YtpchhfhmopmagaaGreat.St Go.Proofs.YtpchhfhmopmagaaGreat.Sr

theorem cells_c (n : Int) (w : World) : Calls Tryz.prog 208 #[.int .i64 n] w fun e w' => e = .returned (.int .i64 (cellsS n : Int)) ∧ w = w' := by
  go_enter Tryz.func208, Tryz.ntmps208
  go_wp2
  all_goals
    go_ret
    refine ⟨congrArg (fun i => Ending.returned (Value.int .i64 i)) ?_, rfl⟩
    unfold cellsS
    omega
def rateI (tpb u : Int) : Bool := decide (1 ≤ tpb) && decide (tpb ≤ 1048576) && decide (1 ≤ u) && decide (u ≤ 1048576)
theorem rateI_true {tpb u : Int} (h : rateI tpb u = true) : 1 ≤ tpb ∧ tpb ≤ 1048576 ∧ 1 ≤ u ∧ u ≤ 1048576 := by
  unfold rateI at h
  simp only [Bool.and_eq_true, decide_eq_true_eq] at h
  exact ⟨h.1.1.1, h.1.1.2, h.1.2, h.2⟩
set_option maxHeartbeats 1000000 in
theorem rright_c (tpb u : Int) (w : World) : Calls Tryz.prog 202 #[.int .i64 tpb, .int .i64 u] w fun e w' => e = .returned (.bool (rateI tpb u)) ∧ w = w' := by
  unfold rateI
  obtain ⟨q1, h1⟩ : ∃ q, decide (1 ≤ tpb) = q := ⟨_, rfl⟩
  obtain ⟨q2, h2⟩ : ∃ q, decide (tpb ≤ 1048576) = q := ⟨_, rfl⟩
  obtain ⟨q3, h3⟩ : ∃ q, decide (1 ≤ u) = q := ⟨_, rfl⟩
  obtain ⟨q4, h4⟩ : ∃ q, decide (u ≤ 1048576) = q := ⟨_, rfl⟩
  rw [h1, h2, h3, h4]
  cases q1 <;> cases q2 <;> cases q3 <;> cases q4 <;>
    (go_enter Tryz.func202, Tryz.ntmps202
     go_wp2
     go_ret
     exact ⟨rfl, rfl⟩)
set_option maxHeartbeats 1000000 in
theorem refright_c (tpb u : Int) (w : World) : Calls Tryz.prog 212 #[.int .i64 tpb, .int .i64 u] w fun e w' => e = .returned (.bool (rateI tpb u)) ∧ w = w' := by
  unfold rateI
  obtain ⟨q1, h1⟩ : ∃ q, decide (1 ≤ tpb) = q := ⟨_, rfl⟩
  obtain ⟨q2, h2⟩ : ∃ q, decide (tpb ≤ 1048576) = q := ⟨_, rfl⟩
  obtain ⟨q3, h3⟩ : ∃ q, decide (1 ≤ u) = q := ⟨_, rfl⟩
  obtain ⟨q4, h4⟩ : ∃ q, decide (u ≤ 1048576) = q := ⟨_, rfl⟩
  rw [h1, h2, h3, h4]
  cases q1 <;> cases q2 <;> cases q3 <;> cases q4 <;>
    (go_enter Tryz.func212, Tryz.ntmps212
     go_wp2
     go_ret
     exact ⟨rfl, rfl⟩)
/-- the document counts the cells one by one -/
theorem refcells_c (n : Int) (_hn : (Lit.int .i64 n).wf = true) (w : World) : Calls Tryz.prog 214 #[.int .i64 n] w fun e w' => e = .returned (.int .i64 (cellsS n : Int)) ∧ w = w' := by
  have hle := cells_le n
  go_enter Tryz.func214, Tryz.ntmps214
  go_wp2
  go_loopg [3] (cellsS n) (fun kx s3 wr => ∃ k : Nat, s3 = .int .i64 k ∧ k ≤ cellsS n ∧ cellsS n - k ≤ kx ∧ wr = w)
  case atStart => exact ⟨0, rfl, by omega, by omega, rfl⟩
  case round =>
    obtain ⟨k, rfl, hk, hkx, rfl⟩ := hrel
    by_cases hlt : k < cellsS n
    · have h1 : decide ((k : Int) < 256) = true := decide_eq_true (by omega)
      have h2 : decide (8 * (k : Int) < n) = true := decide_eq_true (by unfold cellsS at hlt; omega)
      go_wp2
      go_roundg (cellsS n - (k + 1))
      case measure => omega
      case rel => exact ⟨k + 1, by go_num, by omega, by omega, rfl⟩
    · obtain rfl : k = cellsS n := by omega
      by_cases h6 : cellsS n < 256
      · have h1 : decide ((cellsS n : Int) < 256) = true := decide_eq_true (by omega)
        have h2 : decide (8 * (cellsS n : Int) < n) = false := decide_eq_false (by unfold cellsS at h6 ⊢; omega)
        go_wp2
        go_ret
        exact ⟨rfl, rfl⟩
      · have h1 : decide ((cellsS n : Int) < 256) = false := decide_eq_false (by omega)
        go_wp2
        go_ret
        exact ⟨rfl, rfl⟩
end Go.Proofs.YtpchhfhmopmagaaGreat.Qu

/- Quotients of products: sat.Up and the document's. -/
namespace Go.Proofs.YtpchhfhmopmagaaGreat.Qu
open Go.RowKit Go.Proofs.YtpchhfhmopmagaaGreat.Wd Go.Proofs.YtpchhfhmopmagaaGreat.Fl Go.Proofs.YtpchhfhmopmagaaGreat.St Go.Proofs.YtpchhfhmopmagaaGreat.Sr

set_option maxHeartbeats 1000000 in
theorem satright_c (a b c : Nat) (ha : a ≤ 1152921504606846976) (hb : b ≤ 1152921504606846976) (hc : c ≤ 1152921504606846976) (hc0 : 0 < c) (w : World) : Calls Tryz.prog 270 #[.int .i64 a, .int .i64 b, .int .i64 c] w fun e w' => e = .returned (.bool true) ∧ w = w' := by
  have h1 : decide ((0 : Int) ≤ (a : Int)) = true := decide_eq_true (by omega)
  have h2 : decide ((a : Int) ≤ 1152921504606846976) = true := decide_eq_true (by omega)
  have h3 : decide ((0 : Int) ≤ (b : Int)) = true := decide_eq_true (by omega)
  have h4 : decide ((b : Int) ≤ 1152921504606846976) = true := decide_eq_true (by omega)
  have h5 : decide ((1 : Int) ≤ (c : Int)) = true := decide_eq_true (by omega)
  have h6 : decide ((c : Int) ≤ 1152921504606846976) = true := decide_eq_true (by omega)
  go_enter Tryz.func270, Tryz.ntmps270
  go_wp2
  go_ret
  exact ⟨rfl, rfl⟩
set_option maxHeartbeats 1000000 in
theorem refsatright_c (a b c : Nat) (ha : a ≤ 1152921504606846976) (hb : b ≤ 1152921504606846976) (hc : c ≤ 1152921504606846976) (hc0 : 0 < c) (w : World) : Calls Tryz.prog 257 #[.int .i64 a, .int .i64 b, .int .i64 c] w fun e w' => e = .returned (.bool true) ∧ w = w' := by
  have h1 : decide ((0 : Int) ≤ (a : Int)) = true := decide_eq_true (by omega)
  have h2 : decide ((a : Int) ≤ 1152921504606846976) = true := decide_eq_true (by omega)
  have h3 : decide ((0 : Int) ≤ (b : Int)) = true := decide_eq_true (by omega)
  have h4 : decide ((b : Int) ≤ 1152921504606846976) = true := decide_eq_true (by omega)
  have h5 : decide ((1 : Int) ≤ (c : Int)) = true := decide_eq_true (by omega)
  have h6 : decide ((c : Int) ≤ 1152921504606846976) = true := decide_eq_true (by omega)
  go_enter Tryz.func257, Tryz.ntmps257
  go_wp2_with (go_at_call 211; (with_reducible refine (most_c _).mono ?_); rintro e w' ⟨rfl, rfl⟩)
  go_ret
  exact ⟨rfl, rfl⟩
/-- a product below 2^64 of two words below 2^32 -/
theorem mul64_c (x y : Nat) (hx : x < 4294967296) (hy : y < 4294967296) (w : World) : Calls Tryz.prog 271 #[.int .u64 x, .int .u64 y] w fun e w' => e = .returned (.tuple #[.int .u64 0, .int .u64 ((x * y : Nat) : Int)]) ∧ w = w' := by
  have hxy : x * y < 18446744073709551616 := by
    have := Nat.mul_le_mul (Nat.le_of_lt_succ (show x < 4294967295 + 1 by omega)) (Nat.le_of_lt_succ (show y < 4294967295 + 1 by omega))
    omega
  have ax := Mul64.maskN x (by omega)
  have ay := Mul64.maskN y (by omega)
  rw [Nat.mod_eq_of_lt hx] at ax
  rw [Nat.mod_eq_of_lt hy] at ay
  have az : bits .and .u64 (((x * y / 4294967296 : Nat) : Int)) 4294967295 = ((x * y / 4294967296 : Nat) : Int) := by
    have := Mul64.maskN (x * y / 4294967296) (by omega)
    rw [Nat.mod_eq_of_lt (by omega)] at this
    exact this
  have dx : (x : Int) / 4294967296 = 0 := by omega
  have dy : (y : Int) / 4294967296 = 0 := by omega
  have hm : (x : Int) * (y : Int) = ((x * y : Nat) : Int) := (Int.natCast_mul x y).symm
  have hd : ((x * y : Nat) : Int) / 4294967296 = ((x * y / 4294967296 : Nat) : Int) := by omega
  have hd2 : ((x * y / 4294967296 : Nat) : Int) / 4294967296 = 0 := by omega
  generalize x * y = p at *
  generalize hq : p / 4294967296 = q at *
  have hql : q < 4294967296 := by omega
  clear hq hx hy
  go_enter Tryz.func271, Tryz.ntmps271
  go_wp2
  go_ret2
  exact ⟨rfl, rfl⟩
end Go.Proofs.YtpchhfhmopmagaaGreat.Qu

/- Bit by bit; by halves. -/
namespace Go.Proofs.YtpchhfhmopmagaaGreat.Qu
open Go.RowKit Go.Proofs.YtpchhfhmopmagaaGreat.Wd Go.Proofs.YtpchhfhmopmagaaGreat.Fl Go.Proofs.YtpchhfhmopmagaaGreat.St Go.Proofs.YtpchhfhmopmagaaGreat.Sr

set_option maxRecDepth 20000 in
set_option maxHeartbeats 1000000 in
theorem part_c : ∀ (n a : Nat), a < 2 ^ n → ∀ (b c : Nat), 0 < c → c ≤ 1152921504606846976 → b ≤ 1152921504606846976 → a ≤ 1152921504606846976 → a * b / c ≤ 2305843009213693952 → ∀ (w : World),
    Calls Tryz.prog 258 #[.int .i64 a, .int .i64 b, .int .i64 c] w fun e w' => e = .returned (.tuple #[.int .i64 ((a * b / c : Nat) : Int), .int .i64 ((a * b % c : Nat) : Int)]) ∧ w = w' := by
  intro n
  induction n with
  | zero =>
    intro a ha b c hc hc6 hb ha6 hq w
    obtain rfl : a = 0 := by simpa using ha
    have e1 : 0 * b / c = 0 := by rw [Nat.zero_mul, Nat.zero_div]
    have e2 : 0 * b % c = 0 := by rw [Nat.zero_mul, Nat.zero_mod]
    rw [e1, e2]
    go_enter Tryz.func258, Tryz.ntmps258
    go_wp2
    go_ret2
    exact ⟨rfl, rfl⟩
  | succ n ih =>
    intro a ha b c hc hc6 hb ha6 hq w
    by_cases h0 : a = 0
    · subst h0
      have e1 : 0 * b / c = 0 := by rw [Nat.zero_mul, Nat.zero_div]
      have e2 : 0 * b % c = 0 := by rw [Nat.zero_mul, Nat.zero_mod]
      rw [e1, e2]
      go_enter Tryz.func258, Tryz.ntmps258
      go_wp2
      go_ret2
      exact ⟨rfl, rfl⟩
    · have hz : ((a : Int) == 0) = false := by rw [beq_eq_false_iff_ne]; omega
      obtain ⟨s1, s2⟩ := half_step a b c hc
      have hql : a / 2 * b / c ≤ 2305843009213693952 := Nat.le_trans (Nat.div_le_div_right (Nat.mul_le_mul_right _ (Nat.div_le_self a 2))) hq
      have hrl := Nat.mod_lt (a / 2 * b) hc
      have HI0 := ih (a / 2) (by rw [Nat.pow_succ] at ha; omega) b c hc hc6 hb (by omega) hql w
      have hd2 : Int.tdiv (a : Int) 2 = ((a / 2 : Nat) : Int) := rfl
      have hbc : Int.tdiv (b : Int) (c : Int) = ((b / c : Nat) : Int) := rfl
      have hbm : Int.tmod (b : Int) (c : Int) = ((b % c : Nat) : Int) := rfl
      have hbl := Nat.div_le_self b c
      have hbr := Nat.mod_lt b hc
      have hc0 : ¬ (c : Int) = 0 := by omega
      rw [s2]
      rw [s1] at hq ⊢
      generalize a / 2 * b / c = q at *
      generalize a / 2 * b % c = r at *
      generalize hB1 : b / c = b1 at *
      generalize hB2 : b % c = b2 at *
      have ha2 : a / 2 ≤ 1152921504606846976 := by omega
      generalize a / 2 = a2 at *
      have HI := Lib.hid HI0
      by_cases ho : a % 2 = 1
      · have hm2 : Int.tmod (a : Int) 2 = 1 := by show (((a % 2 : Nat)) : Int) = 1; rw [ho]; rfl
        simp only [if_pos ho] at hq ⊢
        have hx : Int.tdiv (2 * (r : Int) + (b2 : Int)) (c : Int) = (((2 * r + b2) / c : Nat) : Int) := rfl
        have hy : Int.tmod (2 * (r : Int) + (b2 : Int)) (c : Int) = (((2 * r + b2) % c : Nat) : Int) := rfl
        generalize (2 * r + b2) / c = d1 at *
        generalize (2 * r + b2) % c = d2 at *
        have hfin : ((2 * q + b1 + d1 : Nat) : Int) = 2 * (q : Int) + (b1 : Int) + (d1 : Int) := by omega
        have HFIN := Lib.hid hfin
        clear s1 s2 hB1 hB2 ih ha HI0 hfin ho
        go_enter Tryz.func258, Tryz.ntmps258
        go_wp2_with (first
          | (go_at_call 258; (with_reducible refine (HI.out).mono ?_); rintro e w' ⟨rfl, rfl⟩)
          | (go_at_call 211; (with_reducible refine (most_c _).mono ?_); rintro e w' ⟨rfl, rfl⟩))
        go_ret2
        refine ⟨?_, rfl⟩
        rw [HFIN.out]
        rfl
      · have hm2 : Int.tmod (a : Int) 2 = 0 := by show (((a % 2 : Nat)) : Int) = 0; rw [show a % 2 = 0 by omega]; rfl
        simp only [if_neg ho] at hq ⊢
        have hx : Int.tdiv (2 * (r : Int)) (c : Int) = (((2 * r) / c : Nat) : Int) := rfl
        have hy : Int.tmod (2 * (r : Int)) (c : Int) = (((2 * r) % c : Nat) : Int) := rfl
        simp only [Nat.add_zero] at hq ⊢
        generalize (2 * r) / c = d1 at *
        generalize (2 * r) % c = d2 at *
        have hfin : ((2 * q + d1 : Nat) : Int) = 2 * (q : Int) + (d1 : Int) := by omega
        have HFIN := Lib.hid hfin
        clear s1 s2 hB1 hB2 ih ha HI0 hfin ho
        go_enter Tryz.func258, Tryz.ntmps258
        go_wp2_with (first
          | (go_at_call 258; (with_reducible refine (HI.out).mono ?_); rintro e w' ⟨rfl, rfl⟩)
          | (go_at_call 211; (with_reducible refine (most_c _).mono ?_); rintro e w' ⟨rfl, rfl⟩))
        go_ret2
        refine ⟨?_, rfl⟩
        rw [HFIN.out]
        rfl
end Go.Proofs.YtpchhfhmopmagaaGreat.Qu

/- sat.divided: bit by bit. -/
namespace Go.Proofs.YtpchhfhmopmagaaGreat.Qu
open Go.RowKit Go.Proofs.YtpchhfhmopmagaaGreat.Wd Go.Proofs.YtpchhfhmopmagaaGreat.Fl Go.Proofs.YtpchhfhmopmagaaGreat.St Go.Proofs.YtpchhfhmopmagaaGreat.Sr

theorem and_one (v : Nat) (hv : v < 18446744073709551616) : bits .and .u64 (v : Int) 1 = ((v % 2 : Nat) : Int) := by
  have h := bits_and_u64_nat v 1 hv (by omega)
  rw [Nat.and_one_is_mod] at h
  exact h
theorem or_one (r b : Nat) (hr : r < 4611686018427387904) (hb : b < 2) : bits .or .u64 ((2 * r : Nat) : Int) (b : Int) = ((2 * r + b : Nat) : Int) := by
  rw [bits_or_u64_nat (2 * r) b (by omega) (by omega)]
  have h := Nat.two_pow_add_eq_or_of_lt (i := 1) (b := b) (by omega) r
  rw [Nat.pow_one] at h
  rw [h]
def doneAt (i h : Nat) : Nat := if i = 2 then h else 0
set_option maxRecDepth 20000 in
set_option maxHeartbeats 2000000 in
theorem divided_c (h c : Nat) (hh : h < 18446744073709551616) (hc : 0 < c) (hc6 : c ≤ 1152921504606846976) (hq : h / c ≤ 1152921504606846976) (w : World) :
    Calls Tryz.prog 272 #[.agg #[.int .u64 0, .int .u64 h], .int .u64 c] w fun e w' => e = .returned (.tuple #[.int .u64 ((h / c : Nat) : Int), .int .u64 ((h % c : Nat) : Int), .bool false]) ∧ Below w.heap.size w w' := by
  have hr0 := (row_new w 287 [.int .u64 0, .int .u64 h])
  have hB0 : Below w.heap.size w (w.alloc (.cells #[.int .u64 0, .int .u64 h] 287)) := (Below.refl _ w).alloc (Nat.le_refl _) _
  have HB0 := Lib.hid hB0
  clear hB0 hr0
  have HQ := Lib.hid hq
  clear hq
  go_enter Tryz.func272, Tryz.ntmps272
  go_wp2
  go_step3
  go_wp2
  go_step3
  go_wp2
  go_loopg [7, 8, 13] 2 (fun kx s7 s8 s13 wr => ∃ i q r : Nat, s13 = .int .i64 i ∧ i ≤ 2 ∧ 2 - i ≤ kx ∧ s7 = .int .u64 (q : Int) ∧ s8 = .int .u64 (r : Int) ∧ wr = w.alloc (.cells #[.int .u64 0, .int .u64 h] 287) ∧ Hid (q = doneAt i h / c ∧ r = doneAt i h % c))
  case atStart => exact ⟨0, 0, 0, rfl, by omega, by omega, rfl, rfl, rfl, Lib.hid ⟨by unfold doneAt; simp, by unfold doneAt; simp⟩⟩
  case round =>
    obtain ⟨i, q, r, rfl, hi, hkx, rfl, rfl, rfl, HD⟩ := hrel
    obtain rfl | rfl | rfl : i = 0 ∨ i = 1 ∨ i = 2 := by omega
    · have hix : ∀ w, (Instr.index 287 (.agg #[.int .u64 0, .int .u64 (h : Int)]) (.int .i64 0)).run Tryz.prog w = .ok (.int .u64 0) w := fun w => by kernel_rfl
      have h01 : bits .and .u64 0 1 = 0 := by decide +kernel
      have h00 : bits .or .u64 0 0 = 0 := by decide +kernel
      obtain ⟨rfl, rfl⟩ : q = 0 ∧ r = 0 := by
        have := HD.out
        unfold doneAt at this
        rw [if_neg (by decide), Nat.zero_div, Nat.zero_mod] at this
        exact this
      have hcz : ¬ (c : Int) ≤ 0 := by omega
      go_wp2_with fail
      go_loopg [7, 8, 11] 64 (fun kx s7 s8 s11 wr => ∃ j : Nat, s11 = .int .i64 ((j : Int) - 1) ∧ j ≤ 64 ∧ j ≤ kx ∧ s7 = .int .u64 0 ∧ s8 = .int .u64 0 ∧ wr = w.alloc (.cells #[.int .u64 0, .int .u64 h] 287))
      case atStart => exact ⟨64, by go_num, by omega, by omega, by go_num, by go_num, rfl⟩
      case round =>
        obtain ⟨j, rfl, hj, hjx, rfl, rfl, rfl⟩ := hrel
        cases j with
        | zero =>
          have hlt : ¬ (0 : Int) ≤ ((0 : Nat) : Int) - 1 := by omega
          go_wp2_with fail
          go_roundg 1
          case measure => omega
          case rel => exact ⟨1, 0, 0, by go_num, by omega, by omega, rfl, rfl, rfl, Lib.hid ⟨by unfold doneAt; simp, by unfold doneAt; simp⟩⟩
        | succ j =>
          have hj1 : ((j + 1 : Nat) : Int) - 1 = (j : Int) := by omega
          rw [hj1]
          have hlt : (0 : Int) ≤ (j : Int) := by omega
          go_wp2_with fail
          go_roundg j
          case measure => omega
          case rel => exact ⟨j, by go_num, by omega, by omega, by go_num, by go_num, rfl⟩
    · have hix : ∀ w, (Instr.index 287 (.agg #[.int .u64 0, .int .u64 (h : Int)]) (.int .i64 1)).run Tryz.prog w = .ok (.int .u64 (h : Int)) w := fun w => by kernel_rfl
      obtain ⟨rfl, rfl⟩ : q = 0 ∧ r = 0 := by
        have := HD.out
        unfold doneAt at this
        rw [if_neg (by decide), Nat.zero_div, Nat.zero_mod] at this
        exact this
      go_wp2_with fail
      go_loopg [7, 8, 11] 64 (fun kx s7 s8 s11 wr => ∃ j q r : Nat, s11 = .int .i64 ((j : Int) - 1) ∧ j ≤ 64 ∧ j ≤ kx ∧ s7 = .int .u64 (q : Int) ∧ s8 = .int .u64 (r : Int) ∧ wr = w.alloc (.cells #[.int .u64 0, .int .u64 h] 287) ∧ Hid (q = topB h (64 - j) / c ∧ r = topB h (64 - j) % c))
      case atStart => exact ⟨64, 0, 0, by go_num, by omega, by omega, by go_num, by go_num, rfl, Lib.hid ⟨by rw [Nat.sub_self, topB_zero h hh, Nat.zero_div], by rw [Nat.sub_self, topB_zero h hh, Nat.zero_mod]⟩⟩
      case round =>
        obtain ⟨j, q, r, rfl, hj, hjx, rfl, rfl, rfl, HJ⟩ := hrel
        cases j with
        | zero =>
          have hlt : ¬ (0 : Int) ≤ ((0 : Nat) : Int) - 1 := by omega
          go_wp2_with fail
          go_roundg 0
          case measure => omega
          case rel => exact ⟨2, q, r, by go_num, by omega, by omega, rfl, rfl, rfl, Lib.hid (by have := HJ.out; rw [Nat.sub_zero, topB_all] at this; unfold doneAt; rw [if_pos rfl]; exact this)⟩
        | succ j =>
          have hj1 : ((j + 1 : Nat) : Int) - 1 = (j : Int) := by omega
          rw [hj1]
          have hlt : (0 : Int) ≤ (j : Int) := by omega
          have hts := topB_succ h (64 - (j + 1)) (by omega)
          rw [show 64 - (j + 1) + 1 = 64 - j by omega, show 63 - (64 - (j + 1)) = j by omega] at hts
          have htl := topB_le h (64 - (j + 1))
          obtain ⟨v, hvd⟩ : ∃ v, v = h / 2 ^ j := ⟨_, rfl⟩
          have hvl : v ≤ h := by rw [hvd]; exact Nat.div_le_self _ _
          have hv : (h : Int) / 2 ^ j = (v : Int) := by rw [hvd]; push_cast; rfl
          have hmn : min j 64 = j := by omega
          rw [← hvd] at hts
          have hbt : v % 2 < 2 := Nat.mod_lt _ (by omega)
          have hand := and_one v (by omega)
          obtain ⟨b1, b2⟩ := bit_more (topB h (64 - (j + 1))) c (v % 2) hc hbt
          rw [← hts] at b1 b2
          have hql : topB h (64 - (j + 1)) / c ≤ 1152921504606846976 := Nat.le_trans (Nat.div_le_div_right htl) HQ.out
          have hrl := Nat.mod_lt (topB h (64 - (j + 1))) hc
          obtain ⟨e1, e2⟩ := HJ.out
          rw [← e1] at hql b1
          rw [← e2] at hrl b1 b2
          generalize v % 2 = bt at *
          have hor := or_one r bt (by omega) hbt
          have hcast : ((2 * r : Nat) : Int) = (r : Int) * 2 := by omega
          rw [hcast] at hor
          have hqs : ¬ (1152921504606846976 : Int) < (q : Int) := by omega
          obtain ⟨r2, hr2⟩ : ∃ r2, r2 = 2 * r + bt := ⟨_, rfl⟩
          rw [← hr2] at hor b1 b2
          have hr2l : r2 < 2305843009213693952 := by omega
          have HRC := Lib.hid (show r2 < 2 * c by omega)
          have B1 := Lib.hid b1
          have B2 := Lib.hid b2
          clear hts htl hvd b1 b2 hcast hbt hr2 e1 e2 HJ
          by_cases hge : c ≤ r2
          · have hgz : (c : Int) ≤ (r2 : Int) := by omega
            have HG := Lib.hid hge
            go_wp2_with fail
            go_roundg j
            case measure => omega
            case rel => exact ⟨j, 2 * q + 1, r2 - c, by go_num, by omega, by omega, by go_num, by go_num, rfl, Lib.hid ⟨by rw [B1.out, if_pos HG.out], by rw [B2.out, if_pos HG.out]⟩⟩
          · have hgz : ¬ (c : Int) ≤ (r2 : Int) := by omega
            have HG := Lib.hid hge
            go_wp2_with fail
            go_roundg j
            case measure => omega
            case rel => exact ⟨j, 2 * q, r2, by go_num, by omega, by omega, by go_num, by go_num, rfl, Lib.hid ⟨by rw [B1.out, if_neg HG.out, Nat.add_zero], by rw [B2.out, if_neg HG.out, Nat.sub_zero]⟩⟩
    · have hd2 : doneAt 2 h = h := rfl
      obtain ⟨e1, e2⟩ := HD.out
      rw [hd2] at e1 e2
      have HQ2 := HQ.out
      rw [← e1] at HQ2
      have E1 := Lib.hid e1; have E2 := Lib.hid e2
      have hqs : ¬ (1152921504606846976 : Int) < (q : Int) := by omega
      clear e1 e2 hd2 HD
      go_wp2_with fail
      (try rw [Exit.noGoto_ret])
      go_ret3
      exact ⟨by rw [← E1.out, ← E2.out]; rfl, HB0.out⟩
end Go.Proofs.YtpchhfhmopmagaaGreat.Qu

/- Quotients of products rounded up; times of bytes: the program's and the document's. -/
namespace Go.Proofs.YtpchhfhmopmagaaGreat.Qu
open Go.RowKit Go.Proofs.YtpchhfhmopmagaaGreat.Wd Go.Proofs.YtpchhfhmopmagaaGreat.Fl Go.Proofs.YtpchhfhmopmagaaGreat.St Go.Proofs.YtpchhfhmopmagaaGreat.Sr

theorem hold_id {n : Nat} (h : n ≤ 1152921504606846976) : hold (n : Int) = (n : Int) := by
  unfold hold
  rw [if_neg (by omega), if_neg (by omega)]
set_option maxRecDepth 20000 in
set_option maxHeartbeats 1000000 in
theorem satup_c (a b c : Nat) (ha : a < 4294967296) (hb : b < 4294967296) (hc : 0 < c) (hc6 : c ≤ 1152921504606846976) (hab : a * b ≤ 2251799813685248) (w : World) :
    Calls Tryz.prog 245 #[.int .i64 a, .int .i64 b, .int .i64 c] w fun e w' => e = .returned (.int .i64 (upS a b c : Int)) ∧ Below w.heap.size w w' := by
  have H1 := Lib.hid (satright_c a b c (by omega) (by omega) hc6 hc)
  have H2 := Lib.hid (mul64_c a b ha hb)
  have hql : a * b / c ≤ a * b := Nat.div_le_self _ _
  have H3 := Lib.hid (divided_c (a * b) c (by omega) hc hc6 (by omega))
  have hup := Lib.hid (show upS a b c = a * b / c + (if 0 < a * b % c then 1 else 0) from rfl)
  have hrl := Nat.mod_lt (a * b) hc
  generalize a * b / c = q at *
  generalize a * b % c = r at *
  generalize a * b = p at *
  by_cases hr : 0 < r
  · have hrz : (0 : Int) < (r : Int) := by omega
    have H4 := Lib.hid (hold_c ((q + 1 : Nat) : Int))
    rw [hold_id (by omega)] at H4
    have HUP := Lib.hid (show upS a b c = q + 1 by rw [hup.out, if_pos hr])
    have hcast : ((q + 1 : Nat) : Int) = (q : Int) + 1 := by omega
    rw [hcast] at H4
    clear hup hcast
    go_enter Tryz.func245, Tryz.ntmps245
    go_wp2_with (first
      | (go_at_call 270; (with_reducible refine (H1.out _).mono ?_); rintro e w' ⟨rfl, rfl⟩)
      | (go_at_call 271; (with_reducible refine (H2.out _).mono ?_); rintro e w' ⟨rfl, rfl⟩)
      | (go_at_call 272; (with_reducible refine (H3.out _).mono ?_); rintro e w1 ⟨rfl, hb1⟩; have HB1 := Lib.hid hb1; clear hb1)
      | (go_at_call 139; (with_reducible refine (H4.out _).mono ?_); rintro e w' ⟨rfl, rfl⟩))
    go_ret
    exact ⟨by rw [HUP.out]; rfl, HB1.out⟩
  · have hrz : ¬ (0 : Int) < (r : Int) := by omega
    have H4 := Lib.hid (hold_c (q : Int))
    rw [hold_id (by omega)] at H4
    have HUP := Lib.hid (show upS a b c = q by rw [hup.out, if_neg hr, Nat.add_zero])
    clear hup
    go_enter Tryz.func245, Tryz.ntmps245
    go_wp2_with (first
      | (go_at_call 270; (with_reducible refine (H1.out _).mono ?_); rintro e w' ⟨rfl, rfl⟩)
      | (go_at_call 271; (with_reducible refine (H2.out _).mono ?_); rintro e w' ⟨rfl, rfl⟩)
      | (go_at_call 272; (with_reducible refine (H3.out _).mono ?_); rintro e w1 ⟨rfl, hb1⟩; have HB1 := Lib.hid hb1; clear hb1)
      | (go_at_call 139; (with_reducible refine (H4.out _).mono ?_); rintro e w' ⟨rfl, rfl⟩))
    go_ret
    exact ⟨by rw [HUP.out]; rfl, HB1.out⟩
set_option maxRecDepth 20000 in
set_option maxHeartbeats 1000000 in
theorem refup_c (a b c : Nat) (ha : a ≤ 1152921504606846976) (hb : b ≤ 1152921504606846976) (hc : 0 < c) (hc6 : c ≤ 1152921504606846976) (hab : a * b ≤ 2251799813685248) (w : World) :
    Calls Tryz.prog 213 #[.int .i64 a, .int .i64 b, .int .i64 c] w fun e w' => e = .returned (.int .i64 (upS a b c : Int)) ∧ w = w' := by
  have H1 := Lib.hid (refsatright_c a b c ha hb hc6 hc)
  have hql : a * b / c ≤ a * b := Nat.div_le_self _ _
  have H3 := Lib.hid (part_c 61 a (by omega) b c hc hc6 hb ha (by omega))
  have hup := Lib.hid (show upS a b c = a * b / c + (if 0 < a * b % c then 1 else 0) from rfl)
  have hrl := Nat.mod_lt (a * b) hc
  generalize a * b / c = q at *
  generalize a * b % c = r at *
  by_cases hr : 0 < r
  · have hrz : (0 : Int) < (r : Int) := by omega
    have H4 := Lib.hid (refhold_c ((q + 1 : Nat) : Int))
    rw [hold_id (by omega)] at H4
    have HUP := Lib.hid (show upS a b c = q + 1 by rw [hup.out, if_pos hr])
    have hcast : ((q + 1 : Nat) : Int) = (q : Int) + 1 := by omega
    rw [hcast] at H4
    clear hup hcast
    go_enter Tryz.func213, Tryz.ntmps213
    go_wp2_with (first
      | (go_at_call 257; (with_reducible refine (H1.out _).mono ?_); rintro e w' ⟨rfl, rfl⟩)
      | (go_at_call 258; (with_reducible refine (H3.out _).mono ?_); rintro e w' ⟨rfl, rfl⟩)
      | (go_at_call 152; (with_reducible refine (H4.out _).mono ?_); rintro e w' ⟨rfl, rfl⟩))
    go_ret
    exact ⟨by rw [HUP.out]; rfl, rfl⟩
  · have hrz : ¬ (0 : Int) < (r : Int) := by omega
    have H4 := Lib.hid (refhold_c (q : Int))
    rw [hold_id (by omega)] at H4
    have HUP := Lib.hid (show upS a b c = q by rw [hup.out, if_neg hr, Nat.add_zero])
    clear hup
    go_enter Tryz.func213, Tryz.ntmps213
    go_wp2_with (first
      | (go_at_call 257; (with_reducible refine (H1.out _).mono ?_); rintro e w' ⟨rfl, rfl⟩)
      | (go_at_call 258; (with_reducible refine (H3.out _).mono ?_); rintro e w' ⟨rfl, rfl⟩)
      | (go_at_call 152; (with_reducible refine (H4.out _).mono ?_); rintro e w' ⟨rfl, rfl⟩))
    go_ret
    exact ⟨by rw [HUP.out]; rfl, rfl⟩
/-- the ticks of so many bytes -/
def exactS (tpb u n : Int) : Nat := if rateI tpb u = true then timeC tpb.toNat u.toNat (cellsS n) else 0
theorem nat_of {x : Int} (h : 1 ≤ x) : ∃ k : Nat, x = (k : Int) ∧ x.toNat = k := ⟨x.toNat, by omega, rfl⟩
set_option maxRecDepth 20000 in
set_option maxHeartbeats 1000000 in
theorem exact_c (tpb u n : Int) (w : World) : Calls Tryz.prog 203 #[.int .i64 tpb, .int .i64 u, .int .i64 n] w fun e w' => e = .returned (.int .i64 (exactS tpb u n : Int)) ∧ Below w.heap.size w w' := by
  have H1 := Lib.hid (rright_c tpb u)
  have H2 := Lib.hid (cells_c n)
  have hcl := cells_le n
  have hex := Lib.hid (show exactS tpb u n = if rateI tpb u = true then timeC tpb.toNat u.toNat (cellsS n) else 0 from rfl)
  obtain ⟨q, hq⟩ : ∃ q, q = rateI tpb u := ⟨_, rfl⟩
  rw [← hq] at H1
  cases q with
  | false =>
    have HX := Lib.hid (show exactS tpb u n = 0 by rw [hex.out, ← hq]; rfl)
    clear hex hq
    go_enter Tryz.func203, Tryz.ntmps203
    go_wp2_with (go_at_call 202; (with_reducible refine (H1.out _).mono ?_); rintro e w' ⟨rfl, rfl⟩)
    go_ret
    exact ⟨by rw [HX.out]; rfl, Below.refl _ _⟩
  | true =>
    obtain ⟨t1, t2, u1, u2⟩ := rateI_true hq.symm
    obtain ⟨t, ht, htn⟩ := nat_of t1
    obtain ⟨v, hv, hvn⟩ := nat_of u1
    have HX := Lib.hid (show exactS tpb u n = upS (8 * cellsS n * t) 1048576 v by rw [hex.out, ← hq, if_pos rfl, htn, hvn]; rfl)
    subst ht hv
    have hsm := timeC_small t v (cellsS n) (by omega) hcl
    clear hex hq htn hvn
    generalize cellsS n = k at *
    have H3 := Lib.hid (satup_c (8 * k * t) 1048576 v (by omega) (by omega) (by omega) (by omega) hsm)
    have hm : 8 * (k : Int) * (t : Int) = ((8 * k * t : Nat) : Int) := by push_cast; rfl
    have hml : 8 * k * t ≤ 2147483648 := by omega
    generalize 8 * k * t = m at *
    go_enter Tryz.func203, Tryz.ntmps203
    go_wp2_with (first
      | (go_at_call 202; (with_reducible refine (H1.out _).mono ?_); rintro e w' ⟨rfl, rfl⟩)
      | (go_at_call 208; (with_reducible refine (H2.out _).mono ?_); rintro e w' ⟨rfl, rfl⟩)
      | (go_at_call 245; (refine (H3.out _).mono ?_); rintro e w1 ⟨rfl, hb1⟩; have HB1 := Lib.hid hb1; clear hb1))
    go_ret
    exact ⟨by rw [HX.out]; rfl, HB1.out⟩
set_option maxRecDepth 20000 in
set_option maxHeartbeats 1000000 in
theorem refexact_c (tpb u n : Int) (hn : (Lit.int .i64 n).wf = true) (w : World) : Calls Tryz.prog 153 #[.int .i64 tpb, .int .i64 u, .int .i64 n] w fun e w' => e = .returned (.int .i64 (exactS tpb u n : Int)) ∧ w = w' := by
  have H1 := Lib.hid (refright_c tpb u)
  have H2 := Lib.hid (refcells_c n hn)
  have hcl := cells_le n
  have hex := Lib.hid (show exactS tpb u n = if rateI tpb u = true then timeC tpb.toNat u.toNat (cellsS n) else 0 from rfl)
  obtain ⟨q, hq⟩ : ∃ q, q = rateI tpb u := ⟨_, rfl⟩
  rw [← hq] at H1
  cases q with
  | false =>
    have HX := Lib.hid (show exactS tpb u n = 0 by rw [hex.out, ← hq]; rfl)
    clear hex hq
    go_enter Tryz.func153, Tryz.ntmps153
    go_wp2_with (go_at_call 212; (with_reducible refine (H1.out _).mono ?_); rintro e w' ⟨rfl, rfl⟩)
    go_ret
    exact ⟨by rw [HX.out]; rfl, rfl⟩
  | true =>
    obtain ⟨t1, t2, u1, u2⟩ := rateI_true hq.symm
    obtain ⟨t, ht, htn⟩ := nat_of t1
    obtain ⟨v, hv, hvn⟩ := nat_of u1
    have HX := Lib.hid (show exactS tpb u n = upS (8 * cellsS n * t) 1048576 v by rw [hex.out, ← hq, if_pos rfl, htn, hvn]; rfl)
    subst ht hv
    have hsm := timeC_small t v (cellsS n) (by omega) hcl
    clear hex hq htn hvn
    generalize cellsS n = k at *
    have H3 := Lib.hid (refup_c (8 * k * t) 1048576 v (by omega) (by omega) (by omega) (by omega) hsm)
    have hm : 8 * (k : Int) * (t : Int) = ((8 * k * t : Nat) : Int) := by push_cast; rfl
    have hml : 8 * k * t ≤ 2147483648 := by omega
    generalize 8 * k * t = m at *
    go_enter Tryz.func153, Tryz.ntmps153
    go_wp2_with (first
      | (go_at_call 212; (with_reducible refine (H1.out _).mono ?_); rintro e w' ⟨rfl, rfl⟩)
      | (go_at_call 214; (with_reducible refine (H2.out _).mono ?_); rintro e w' ⟨rfl, rfl⟩)
      | (go_at_call 213; (refine (H3.out _).mono ?_); rintro e w1 ⟨rfl, rfl⟩))
    go_ret
    exact ⟨by rw [HX.out]; rfl, rfl⟩
end Go.Proofs.YtpchhfhmopmagaaGreat.Qu

/- Tables of times. -/
namespace Go.Proofs.YtpchhfhmopmagaaGreat.Qu
open Go.RowKit Go.Shelf Go.Maps Go.Proofs.YtpchhfhmopmagaaGreat.Wd Go.Proofs.YtpchhfhmopmagaaGreat.Fl Go.Proofs.YtpchhfhmopmagaaGreat.St Go.Proofs.YtpchhfhmopmagaaGreat.Sr
attribute [local go_sem] Lx.opX Rel.oneOk
attribute [local irreducible] Lx.wpX

/-- the first k times -/
def tabP (tpb u : Int) (k : Nat) : List Value := (List.range 257).map (fun i => if i < k then .int .i64 (exactS tpb u ((i : Int) * 8) : Int) else .int .i64 0)
theorem tabP_zero (tpb u : Int) : tabP tpb u 0 = List.replicate 257 (.int .i64 0) := by
  unfold tabP
  apply List.ext_getElem?
  intro i
  rw [List.getElem?_map, List.getElem?_replicate]
  by_cases h : i < 257
  · rw [List.getElem?_range h, if_pos h]; rfl
  · rw [List.getElem?_eq_none (by simpa using h), if_neg h]; rfl
theorem tabP_at (tpb u : Int) (k i : Nat) (hi : i < 257) : (tabP tpb u k)[i]? = some (if i < k then .int .i64 (exactS tpb u ((i : Int) * 8) : Int) else .int .i64 0) := by
  unfold tabP; rw [List.getElem?_map, List.getElem?_range hi]; rfl
theorem tabP_len (tpb u : Int) (k : Nat) : (tabP tpb u k).length = 257 := by unfold tabP; rw [List.length_map, List.length_range]
theorem tabP_set (tpb u : Int) (k : Nat) (hk : k < 257) : (tabP tpb u k).set k (.int .i64 (exactS tpb u ((k : Int) * 8) : Int)) = tabP tpb u (k + 1) := by
  apply List.ext_getElem?
  intro i
  by_cases hi : i < 257
  · rw [List.getElem?_set]
    by_cases he : k = i
    · subst he; rw [if_pos rfl, if_pos (by rw [tabP_len]; exact hk), tabP_at _ _ _ _ hi, if_pos (Nat.lt_succ_self k)]
    · rw [if_neg he, tabP_at _ _ _ _ hi, tabP_at _ _ _ _ hi]
      by_cases hl : i < k
      · rw [if_pos hl, if_pos (by omega)]
      · rw [if_neg hl, if_neg (by omega)]
  · rw [List.getElem?_eq_none (by rw [List.length_set, tabP_len]; omega), List.getElem?_eq_none (by rw [tabP_len]; omega)]
def tabS (tpb u : Int) : List Value := tabP tpb u 257
theorem wpList_copy {P : Program} {ops : Array Oper} {rest : List Oper} {o : Oper} {a : Act} {Q : Exit → Act → World → Prop} {w : World} (hgd : o.guard = none) (x y : Operand) (dT sT : TypeId)
    (ho : o.op = .call { callee := .builtin .copy, args := #[x, y], argTypes := #[dT, sT] }) (X Y : Value) (hX : a.eval x = X) (hY : a.eval y = Y) (r : Value) (w' : World) (hrun : ∀ ty, (Builtin.copy_ #[dT, sT] ty #[X, Y]).run P w = .ok r w') (h : wpList P ops Q rest (a.put o.dst r) w') : wpList P ops Q (o :: rest) a w := by
  subst hX hY
  refine wpList_plain hgd fun K hK => ?_
  have he : (execOp a.eval o).run P w = .ok (.value r) w' := by
    simp [execOp, ho, resolve, invoke, builtin, hrun, Result.andThen]
  unfold Oper.wp
  rw [he]
  exact hK _ _ h
def NewTab (tpb u : Int) (w : World) (e : Ending) (w' : World) : Prop :=
  (rateI tpb u = false ∧ e = .returned (.tuple #[.pointer none, .int .i64 2]) ∧ Below w.heap.size w w') ∨
  (rateI tpb u = true ∧ ∃ T, e = .returned (.tuple #[.pointer (some ⟨T, 0, none⟩), .int .i64 0]) ∧ Row w' T 251 (tabS tpb u) ∧ w.heap.size ≤ T ∧ Below w.heap.size w w')
set_option maxRecDepth 20000 in
set_option maxHeartbeats 1000000 in
theorem newtab_c (tpb u : Int) (w : World) : Calls Tryz.prog 132 #[.int .i64 tpb, .int .i64 u] w (NewTab tpb u w) := by
  have H1 := Lib.hid (rright_c tpb u)
  have H2 := Lib.hid (fun n w => exact_c tpb u n w)
  obtain ⟨q, hq⟩ : ∃ q, q = rateI tpb u := ⟨_, rfl⟩
  have HQ := Lib.hid hq
  rw [← hq] at H1
  clear hq
  cases q with
  | false =>
    go_enter Tryz.func132, Tryz.ntmps132
    go_wp2_with (go_at_call 202; (with_reducible refine (H1.out _).mono ?_); rintro e w' ⟨rfl, rfl⟩)
    go_ret2
    exact .inl ⟨HQ.out.symm, rfl, Below.refl _ _⟩
  | true =>
    have hzc : Tryz.zeroCells249 = (List.replicate 257 (Value.int .i64 0)).toArray := by kernel_rfl
    have hrow := row_new w 249 (List.replicate 257 (.int .i64 0))
    rw [← hzc, ← tabP_zero tpb u] at hrow
    have hB0 : Below w.heap.size w (w.alloc (.cells Tryz.zeroCells249 249)) := (Below.refl _ w).alloc (Nat.le_refl _) _
    have HR0 := Lib.hid hrow; have HB0 := Lib.hid hB0
    clear hrow hB0 hzc
    go_enter Tryz.func132, Tryz.ntmps132
    go_wp2_with (go_at_call 202; (with_reducible refine (H1.out _).mono ?_); rintro e w' ⟨rfl, rfl⟩)
    go_loopg [13] 257 (fun kx s13 wr => ∃ k : Nat, s13 = .int .i64 k ∧ k ≤ 257 ∧ 257 - k ≤ kx ∧ Hid (Row wr w.heap.size 249 (tabP tpb u k)) ∧ Hid (Below w.heap.size w wr))
    case atStart => exact ⟨0, rfl, by omega, by omega, HR0, HB0⟩
    case round =>
      obtain ⟨k, rfl, hk, hkx, HR, HW⟩ := hrel
      have hwz := HW.out.size
      clear HR0 HB0
      by_cases hlt : k < 257
      · have hltz : (k : Int) < 257 := by omega
        have hex := Lib.hid (H2.out ((k : Int) * 8) wr)
        have HSET := Lib.hid (tabP_set tpb u k hlt)
        have HAT := Lib.hid (tabP_at tpb u k k hlt)
        generalize exactS tpb u ((k : Int) * 8) = x at *
        go_upto_region 7 with fail
        have hlr := HR.out.lt
        go_wp2_with (go_at_call 203; (with_reducible refine (hex.out).mono ?_); rintro e w2 ⟨rfl, hb2⟩; have HB2 := Lib.hid hb2; have hr2 := HR.out.below hb2 hlr; have hc2 := hr2.cell k; rw [HAT.out] at hc2; have hf2 := hr2.frozen k; have HR2 := Lib.hid hr2; clear hb2 hr2)
        go_roundg (257 - (k + 1))
        case measure => omega
        case rel => exact ⟨k + 1, by go_num, by omega, by omega, Lib.hid (by rw [← HSET.out]; exact HR2.out.set k _), Lib.hid ((HW.out.trans (HB2.out.mono hwz)).setCell (by simp) _)⟩
      · have hltz : ¬ (k : Int) < 257 := by omega
        obtain rfl : k = 257 := by omega
        go_upto_region 10 with fail
        have hlw := HR.out.lt
        have hzc : Tryz.zeroCells251 = (List.replicate 257 (Value.int .i64 0)).toArray := by kernel_rfl
        have hHT := heap_alloc_new wr (.cells Tryz.zeroCells251 251)
        have hrw := HR.out.alloc (.cells Tryz.zeroCells251 251)
        have HZ := Lib.hid hzc; have HT := Lib.hid hHT; have HRW := Lib.hid hrw
        clear hzc hHT hrw
        refine Lx.wp_region_X 5 (fun w' => ∃ z, w' = Lx.kept (fun _ => False) (wr.alloc (.cells Tryz.zeroCells251 251)).drew z) (fun _ => false) (by kernel_rfl) (by kernel_rfl) (Lx.kept_of (Lx.Keeps.refl _ _)) ?_
        simp only [List.take_succ_cons, List.take_zero, List.drop_succ_cons, List.drop_zero]
        repeat (refine Lx.wpX_step (fun K hK => ?_); first | (refine Lx.opX_free (by rfl) (by rfl) (by rfl) ?_; go_big_quiet_op; refine hK _ _ ?_; clear hK K) | (refine Lx.opX_nil (by rfl) (by rfl) (by rfl) (by rfl) ?_; refine hK _ _ ?_; clear hK K; simp only [Act.put, List.setIfInBounds_toArray, List.set_cons_succ, List.set_cons_zero]))
        refine Lx.wpX_nil ?_
        have hcp : ∀ ty, (Builtin.copy_ #[38, 38] ty #[.slice (some ⟨wr.heap.size, 0, none⟩) 257 257, .slice (some ⟨w.heap.size, 0, none⟩) 257 257]).run Tryz.prog (wr.alloc (.cells Tryz.zeroCells251 251)).drew = .ok (goInt 257) ((wr.alloc (.cells Tryz.zeroCells251 251)).drew.setRow wr.heap.size (tabS tpb u).toArray) := fun ty => by
          have hl : (tabS tpb u).length = 257 := tabP_len tpb u 257
          have h := run_copy_row (P := Tryz.prog) (wr.alloc (.cells Tryz.zeroCells251 251)).drew 38 38 ty 3 wr.heap.size 0 257 257 ⟨w.heap.size, 0, none⟩ 257 257 Tryz.zeroCells251 251 (tabS tpb u) Tryz.underlying38 (by kernel_rfl) HT.out (by rw [hl]; rfl)
            (fun j v hv => by rw [add_zero_at]; rw [← hv]; exact HRW.out.cell j) (by rw [hl, HZ.out]; simp) (fun v hv => by
              obtain ⟨j, hj⟩ := List.getElem?_of_mem hv
              have hj2 : j < 257 := by have := (List.getElem?_eq_some_iff.1 hj).1; omega
              have := tabP_at tpb u 257 j hj2
              rw [if_pos hj2] at this
              rw [show (tabS tpb u)[j]? = (tabP tpb u 257)[j]? from rfl, this] at hj
              injection hj with hj; subst hj; rfl)
          rw [h, hl]
          have e : (Tryz.zeroCells251.toList.take 0 ++ tabS tpb u ++ Tryz.zeroCells251.toList.drop (0 + 257)) = tabS tpb u := by
            rw [HZ.out]; simp
          rw [e]
          rfl
        have hHf := setRow_heap (wr.alloc (.cells Tryz.zeroCells251 251)).drew wr.heap.size Tryz.zeroCells251 (tabS tpb u).toArray 251 (0, 0) HT.out
        have hGf := Sw.setRow_grown (wr.alloc (.cells Tryz.zeroCells251 251)).drew wr.heap.size (tabS tpb u).toArray
        have hBf : Below w.heap.size w ((wr.alloc (.cells Tryz.zeroCells251 251)).drew.setRow wr.heap.size (tabS tpb u).toArray) := ((HW.out.alloc hwz _).drew).grown hGf (by simp; omega) (fun q hq => by injection hq with hq; omega)
        have HCP := Lib.hid hcp; have HHF := Lib.hid hHf; have HBF := Lib.hid hBf
        clear hcp hHf hGf hBf
        generalize World.setRow _ _ _ = wf at *
        refine wpList_copy (by rfl) _ _ 38 38 (by rfl) _ _ (by rfl) (by rfl) (goInt 257) wf HCP.out ?_
        go_wp2
        go_ret2
        exact .inr ⟨HQ.out.symm, wr.heap.size, rfl, HHF.out, hwz, HBF.out⟩
end Go.Proofs.YtpchhfhmopmagaaGreat.Qu

/- A table's times; what is spare; Check. quota.New. What a quota tells: of a class; of all leaves. A quota's methods. The document's quotas. What all leaves have together. -/
/- A table's times; what is spare; Check. -/
namespace Go.Proofs.YtpchhfhmopmagaaGreat.Qu
open Go.RowKit Go.Maps Go.Proofs.YtpchhfhmopmagaaGreat.Fl Go.Proofs.YtpchhfhmopmagaaGreat.Wd Go.Proofs.YtpchhfhmopmagaaGreat.Li Go.Proofs.YtpchhfhmopmagaaGreat.Mp Go.Proofs.YtpchhfhmopmagaaGreat.Tp Go.Proofs.YtpchhfhmopmagaaGreat.Tr Go.Proofs.YtpchhfhmopmagaaGreat.Cl Go.Proofs.YtpchhfhmopmagaaGreat.So
attribute [local go_sem] run_store_float Lx.opX Rel.oneOk
attribute [local irreducible] Lx.wpX

theorem exact_cells (tpb u n : Int) : exactS tpb u ((cellsS n : Int) * 8) = exactS tpb u n := by
  unfold exactS; rw [cells_mul (cellsS n) (cells_le n)]
theorem tab_at (tpb u n : Int) : (tabS tpb u)[cellsS n]? = some (.int .i64 (exactS tpb u n : Int)) := by
  have h := cells_le n
  unfold tabS
  rw [tabP_at tpb u 257 (cellsS n) (by omega), if_pos (by omega), exact_cells]
set_option maxRecDepth 20000 in
set_option maxHeartbeats 1000000 in
theorem time_c (T : Nat) (tpb u n : Int) (w : World) (hT : Row w T 251 (tabS tpb u)) :
    Calls Tryz.prog 145 #[.pointer (some ⟨T, 0, none⟩), .int .i64 n] w fun e w' => e = .returned (.int .i64 (exactS tpb u n : Int)) ∧ Below w.heap.size w w' := by
  have H2 := Lib.hid (cells_c n)
  have hcl := cells_le n
  have hc := hT.cell (cellsS n)
  rw [tab_at] at hc
  generalize exactS tpb u n = x at *
  generalize cellsS n = k at *
  have hkz : (k : Int) < 257 := by omega
  clear hT
  go_enter Tryz.func145, Tryz.ntmps145
  go_upto_region 3 with fail
  refine Lx.wp_region_X 5 (fun w' => ∃ z, w' = Lx.kept (fun _ => False) w.drew z) (fun i => i == 2) (by kernel_rfl) (by kernel_rfl) (Lx.kept_of (Lx.Keeps.refl _ _)) ?_
  simp only [List.take_succ_cons, List.take_zero, List.drop_succ_cons, List.drop_zero]
  repeat (refine Lx.wpX_step (fun K hK => ?_); first | (refine Lx.opX_free (by rfl) (by rfl) (by rfl) ?_; go_big_quiet_op; refine hK _ _ ?_; clear hK K) | (refine Lx.opX_nil (by rfl) (by rfl) (by rfl) (by rfl) ?_; refine hK _ _ ?_; clear hK K; simp only [Act.put, List.setIfInBounds_toArray, List.set_cons_succ, List.set_cons_zero]))
  refine Lx.wpX_step (fun K hK => ?_)
  refine Lx.opX_law (by rfl) (by rfl) ?_
  go_wp2_with (go_at_call 208; (with_reducible refine (H2.out _).mono ?_); rintro e w' ⟨rfl, rfl⟩)
  refine Lx.nq_mk (Lx.kept_of (Lx.Keeps.refl _ _)) (hK _ _ ?_)
  clear hK K
  repeat (refine Lx.wpX_step (fun K hK => ?_); first | (refine Lx.opX_free (by rfl) (by rfl) (by rfl) ?_; go_big_quiet_op; refine hK _ _ ?_; clear hK K) | (refine Lx.opX_nil (by rfl) (by rfl) (by rfl) (by rfl) ?_; refine hK _ _ ?_; clear hK K; simp only [Act.put, List.setIfInBounds_toArray, List.set_cons_succ, List.set_cons_zero]))
  refine Lx.wpX_nil ?_
  go_wp2
  go_ret
  exact ⟨rfl, (Below.refl _ w).drew⟩
theorem time_none (n : Int) (w : World) : Calls Tryz.prog 145 #[.pointer none, .int .i64 n] w fun e w' => e = .returned (.int .i64 0) ∧ w = w' := by
  go_enter Tryz.func145, Tryz.ntmps145
  go_wp2
  go_ret
  exact ⟨rfl, rfl⟩
/-- what the first k children have -/
def kidS (l : List Cls) (id : Int) (k : Nat) : Nat := (((kids l id).take k).map (uAt l)).sum
theorem kidS_succ {l : List Cls} {id : Int} {k : Nat} {y : Int} (h : (kids l id)[k]? = some y) : kidS l id (k + 1) = kidS l id k + uAt l y := by
  unfold kidS; rw [List.take_add_one, h, List.map_append, List.sum_append]; simp
theorem kidS_le {l : List Cls} (hs : ∀ c ∈ l, c.share < 18446744073709551616) (h64 : l.length ≤ 64) (id : Int) (k : Nat) : kidS l id k ≤ 67108864 := by
  have h1 := sum_le (uAt l) 1048576 ((kids l id).take k) (fun z _ => uAt_le hs z)
  have h2 := kids_len l id
  have h3 : ((kids l id).take k).length ≤ (kids l id).length := List.length_take_le' _ _
  unfold kidS
  have : ((kids l id).take k).length * 1048576 ≤ 64 * 1048576 := Nat.mul_le_mul_right _ (by omega)
  omega
set_option maxRecDepth 20000 in
set_option maxHeartbeats 2000000 in
theorem spare_c (T : Nat) (l : List Cls) (R : Tp.Tree l) (hs : ∀ c ∈ l, c.share < 18446744073709551616) (id : Int) (hi : id ∈ ids l) (w : World) (hT : TreeAt w w.heap.size T l) :
    Calls Tryz.prog 131 #[.pointer (some ⟨T, 0, none⟩), .int .i64 id] w fun e w' => e = .returned (.tuple #[.int .i64 (uAt l id : Int), .int .i64 (spareS l id)]) ∧ Below w.heap.size w w' := by
  have h64 := R.le
  obtain ⟨x, hx⟩ := at_of_mem hi
  have hxm := (at_mem hx).1
  have hp := R.good.pos x hxm
  have hwf : (Lit.int .i64 id).wf = true := wf_id (i := id) (by rw [← (at_mem hx).2]; omega)
  have hcl := tclass_c T l id hwf w hT
  rw [hx] at hcl
  unfold ClassOk clsV at hcl
  dsimp only [Option.getD, Option.isSome] at hcl
  have hun := fun w => unitsc_any x (hs x hxm) w
  rw [show (unitsS x.share).1 = uAt l id by rw [uAt_some hx]; rfl] at hun
  unfold Cls.agg Ret1 at hun
  have hch := fun u (hu : Below w.heap.size w u) => tchildren_c T l h64 id hwf u ((hT.below hu).up hu.size)
  have hkl := kids_len l id
  unfold ListOk at hch
  have hul := uAt_le hs id
  have HSP := Lib.hid (show spareS l id = (uAt l id : Int) - (kidS l id (kids l id).length : Int) by unfold spareS kidS; rw [List.take_length])
  have HKL := Lib.hid (fun k => kidS_le hs h64 id k)
  have HKS := Lib.hid (fun (k : Nat) (y : Int) (h : (kids l id)[k]? = some y) => kidS_succ h)
  have HCL := Lib.hid hcl; have HUN := Lib.hid hun; have HCH := Lib.hid hch; have HT := Lib.hid hT; have HS := Lib.hid hs; have HR := Lib.hid R
  have HK0 : kidS l id 0 = 0 := rfl
  have HKM := Lib.hid (fun (y : Int) (h : y ∈ kids l id) => kids_ids h)
  generalize spareS l id = sp at *
  generalize uAt l id = u at *
  generalize hks : kids l id = ks at *
  clear hcl hun hch hT hs R hx hxm hp hi hks
  go_enter Tryz.func131, Tryz.ntmps131
  go_wp2_with (first
    | (go_at_call 63; (with_reducible refine (HCL.out).mono ?_); rintro e w1 ⟨rfl, hb1⟩; have HB1 := Lib.hid (hb1.alloc hb1.size (.cells #[.int .i64 x.id, .int .i64 x.parent, .float .f64 x.share, .int .i64 x.prio, .int .i64 x.quantum, .int .i64 x.limit, .int .i64 x.weight, .int .i64 x.minIdle, .int .i64 x.maxIdle, .bool x.bounded, .bool x.isolated] 84)); clear hb1)
    | (go_at_call 200; (with_reducible refine (HUN.out _).mono ?_); rintro e w2 ⟨rfl, hb2⟩; have HB2 := Lib.hid (HB1.out.trans (hb2.mono HB1.out.size)); clear hb2)
    | (go_at_call 201; (with_reducible refine (HCH.out _ HB2.out).mono ?_); rintro e w3 ⟨A3, c3, rfl, hs3, hb3⟩; have HS3 := Lib.hid hs3; have HB3 := Lib.hid (HB2.out.trans (hb3.mono HB2.out.size)); clear hs3 hb3))
  have hw3 := HB3.out.size
  go_loopg [9, 27] ks.length (fun kx s9 s27 wr => ∃ k : Nat, s27 = .int .i64 k ∧ s9 = .int .i64 ((u : Int) - (kidS l id k : Int)) ∧ k ≤ ks.length ∧ ks.length - k ≤ kx ∧ Hid (Below w3.heap.size w3 wr))
  case atStart => exact ⟨0, rfl, by rw [HK0]; simp, by omega, by omega, Lib.hid (Below.refl _ _)⟩
  case round =>
    obtain ⟨k, rfl, rfl, hk, hkx, HW⟩ := hrel
    have hwz := HW.out.size
    have hkb := HKL.out k
    by_cases hlt : k < ks.length
    · have hltz : (k : Int) < (ks.length : Int) := by omega
      obtain ⟨a, v, rfl, hab, hv, hc⟩ := (HS3.out.below HW.out).cell1 (k := k) hlt
      unfold St.I at hv
      simp only [List.getElem?_map] at hv
      obtain ⟨y, hy0, rfl⟩ := Option.map_eq_some_iff.1 hv
      have hyi := HKM.out y (List.mem_of_getElem? hy0)
      obtain ⟨d, hd⟩ := at_of_mem hyi
      have hdm := (at_mem hd).1
      have hdp := HR.out.good.pos d hdm
      have hwfy : (Lit.int .i64 y).wf = true := wf_id (i := y) (by rw [← (at_mem hd).2]; omega)
      have hcl := tclass_c T l y hwfy wr ((HT.out.below (HB3.out.trans (HW.out.mono hw3))).up (by omega))
      rw [hd] at hcl
      unfold ClassOk clsV at hcl
      dsimp only [Option.getD, Option.isSome] at hcl
      have hun := fun w => unitsc_any d (HS.out d hdm) w
      rw [show (unitsS d.share).1 = uAt l y by rw [uAt_some hd]; rfl] at hun
      unfold Cls.agg Ret1 at hun
      have hks1 := HKS.out k y hy0
      have huy := uAt_le HS.out y
      have HK1 := Lib.hid hks1
      have hkb1 := HKL.out (k + 1)
      rw [hks1] at hkb1
      have HCY := Lib.hid hcl; have HUY := Lib.hid hun
      generalize uAt l y = uy at *
      generalize kidS l id k = ke at *
      clear hcl hun hv hy0 hyi hd hdm hdp hks1
      go_wp2_with (first
        | (go_at_call 63; (with_reducible refine (HCY.out).mono ?_); rintro e w4 ⟨rfl, hb4⟩; have HB4 := Lib.hid (hb4.alloc hb4.size (.cells #[.int .i64 d.id, .int .i64 d.parent, .float .f64 d.share, .int .i64 d.prio, .int .i64 d.quantum, .int .i64 d.limit, .int .i64 d.weight, .int .i64 d.minIdle, .int .i64 d.maxIdle, .bool d.bounded, .bool d.isolated] 84)); clear hb4)
        | (go_at_call 200; (with_reducible refine (HUY.out _).mono ?_); rintro e w5 ⟨rfl, hb5⟩; have HB5 := Lib.hid (HB4.out.trans (hb5.mono HB4.out.size)); clear hb5))
      go_roundg (ks.length - (k + 1))
      case measure => omega
      case rel => exact ⟨k + 1, by go_num, by rw [HK1.out]; go_num, by omega, by omega, Lib.hid (HW.out.trans (HB5.out.mono hwz))⟩
    · have hltz : ¬ (k : Int) < (ks.length : Int) := by omega
      obtain rfl : k = ks.length := by omega
      go_wp2
      go_ret2
      exact ⟨by rw [HSP.out]; rfl, HB3.out.trans (HW.out.mono hw3)⟩
/-- none of the first k has less than nothing left -/
def fineP (l : List Cls) (k : Nat) : Prop := ∀ i ∈ (ids (sortC l)).take k, 0 ≤ spareS l i
theorem fine_all {l : List Cls} (h : fineP l (ids (sortC l)).length) : quotaB l = true := by
  unfold fineP at h
  rw [List.take_length] at h
  exact List.all_eq_true.2 fun i hi => decide_eq_true (h i ((sort_ids i).2 hi))
theorem fine_not {l : List Cls} {i : Int} (hi : i ∈ ids l) (h : spareS l i < 0) : quotaB l = false := by
  cases hq : quotaB l with
  | false => rfl
  | true => have := quota_all hq i hi; omega
/-- what Check says -/
def quotaI (l : List Cls) : Int := if quotaB l = true then 0 else 13
theorem quotaI_yes {l : List Cls} (h : quotaB l = true) : quotaI l = 0 := by unfold quotaI; rw [if_pos h]
theorem quotaI_no {l : List Cls} (h : quotaB l = false) : quotaI l = 13 := by unfold quotaI; rw [h]; rfl
def RetI2 (n : Int) (w : World) (e : Ending) (w' : World) : Prop := e = .returned (.int .i64 n) ∧ Below w.heap.size w w'
set_option maxRecDepth 20000 in
set_option maxHeartbeats 1000000 in
theorem qcheck_c (T : Nat) (l : List Cls) (R : Tp.Tree l) (hs : ∀ c ∈ l, c.share < 18446744073709551616) (w : World) (hT : TreeAt w w.heap.size T l) :
    Calls Tryz.prog 130 #[.pointer (some ⟨T, 0, none⟩)] w (RetI2 (quotaI l) w) := by
  have h64 := R.le
  have hil := ids_len l
  have hids := tids_c T l h64 w hT
  unfold ListOk at hids
  have HID := Lib.hid hids
  have HSP := Lib.hid (fun u (hu : Below w.heap.size w u) i hi => spare_c T l R hs i hi u ((hT.below hu).up hu.size))
  have HMEM := Lib.hid (fun (i : Int) (h : i ∈ ids (sortC l)) => (sort_ids i).1 h)
  have HALL := Lib.hid (fun (h : fineP l (ids (sortC l)).length) => quotaI_yes (fine_all h))
  have HNOT := Lib.hid (fun (i : Int) (hi : i ∈ ids l) (h : spareS l i < 0) => quotaI_no (fine_not hi h))
  have HF0 : fineP l 0 := fun i hi => by simp at hi
  have HFS := Lib.hid (fun (k : Nat) (y : Int) (h : (ids (sortC l))[k]? = some y) (hf : fineP l k) (hy : 0 ≤ spareS l y) => (show fineP l (k + 1) from fun i hi => by
    rw [List.take_add_one, h] at hi
    rcases List.mem_append.1 hi with h1 | h1
    · exact hf i h1
    · simp at h1; subst h1; exact hy))
  have HF00 := Lib.hid HF0
  obtain ⟨zs, hzs⟩ : ∃ zs, zs = ids (sortC l) := ⟨_, rfl⟩
  rw [← hzs] at HID HMEM HFS hil HALL
  have hzl : zs.length ≤ 64 := by omega
  clear hids hT hs R hzs HF0
  unfold RetI2
  go_enter Tryz.func130, Tryz.ntmps130
  go_wp2_with (go_at_call 23; (with_reducible refine (HID.out).mono ?_); rintro e w1 ⟨A1, c1, rfl, hs1, hb1⟩; have HS1 := Lib.hid hs1; have HB1 := Lib.hid hb1; clear hs1 hb1)
  have hw1 := HB1.out.size
  go_loopg [12] zs.length (fun kx s12 wr => ∃ k : Nat, s12 = .int .i64 k ∧ k ≤ zs.length ∧ zs.length - k ≤ kx ∧ Hid (fineP l k) ∧ Hid (Below w1.heap.size w1 wr))
  case atStart => exact ⟨0, rfl, by omega, by omega, HF00, Lib.hid (Below.refl _ _)⟩
  case round =>
    obtain ⟨k, rfl, hk, hkx, HF, HW⟩ := hrel
    have hwz := HW.out.size
    by_cases hlt : k < zs.length
    · have hltz : (k : Int) < (zs.length : Int) := by omega
      obtain ⟨a, v, rfl, hab, hv, hc⟩ := (HS1.out.below HW.out).cell1 (k := k) hlt
      unfold St.I at hv
      simp only [List.getElem?_map] at hv
      obtain ⟨y, hy0, rfl⟩ := Option.map_eq_some_iff.1 hv
      have hyi := HMEM.out y (List.mem_of_getElem? hy0)
      have HY := Lib.hid hyi
      have HS := Lib.hid (HSP.out wr (HB1.out.trans (HW.out.mono hw1)) y hyi)
      have HFN := Lib.hid (HFS.out k y hy0 HF.out)
      have HN := Lib.hid (HNOT.out y hyi)
      clear hv hy0 hyi
      generalize spareS l y = sp at *
      by_cases hneg : sp < 0
      · have HQ := Lib.hid (HN.out hneg)
        go_wp2_with (go_at_call 131; (with_reducible refine (HS.out).mono ?_); rintro e w2 ⟨rfl, hb2⟩; have HB2 := Lib.hid hb2; clear hb2)
        go_ret
        exact ⟨by rw [HQ.out]; rfl, HB1.out.trans ((HW.out.trans (HB2.out.mono hwz)).mono hw1)⟩
      · have HP := Lib.hid (show 0 ≤ sp by omega)
        go_wp2_with (go_at_call 131; (with_reducible refine (HS.out).mono ?_); rintro e w2 ⟨rfl, hb2⟩; have HB2 := Lib.hid hb2; clear hb2)
        go_roundg (zs.length - (k + 1))
        case measure => omega
        case rel => exact ⟨k + 1, by go_num, by omega, by omega, Lib.hid (HFN.out HP.out), Lib.hid (HW.out.trans (HB2.out.mono hwz))⟩
    · have hltz : ¬ (k : Int) < (zs.length : Int) := by omega
      obtain rfl : k = zs.length := by omega
      have HQ := Lib.hid (HALL.out HF.out)
      go_wp2
      go_ret
      exact ⟨by rw [HQ.out]; rfl, HB1.out.trans (HW.out.mono hw1)⟩
end Go.Proofs.YtpchhfhmopmagaaGreat.Qu

/- quota.New. -/
namespace Go.Proofs.YtpchhfhmopmagaaGreat.Qu
open Go.RowKit Go.Maps Go.Proofs.YtpchhfhmopmagaaGreat.Fl Go.Proofs.YtpchhfhmopmagaaGreat.Wd Go.Proofs.YtpchhfhmopmagaaGreat.Li Go.Proofs.YtpchhfhmopmagaaGreat.Mp Go.Proofs.YtpchhfhmopmagaaGreat.Tp Go.Proofs.YtpchhfhmopmagaaGreat.Tr Go.Proofs.YtpchhfhmopmagaaGreat.Cl Go.Proofs.YtpchhfhmopmagaaGreat.So
attribute [local go_sem] run_store_float

def tpbB (tpb : Int) : Bool := decide (1 ≤ tpb) && decide (tpb ≤ 1048576)
theorem rate_tpb {tpb : Int} {u : Nat} (h1 : 1 ≤ u) (h2 : u ≤ 1048576) : rateI tpb (u : Int) = tpbB tpb := by
  unfold rateI tpbB
  rw [decide_eq_true (show (1 : Int) ≤ (u : Int) by omega), decide_eq_true (show (u : Int) ≤ 1048576 by omega), Bool.and_true, Bool.and_true]
theorem sl_apart {w w' : World} {B z n b : Nat} {A : Option Addr} {xs : List Value} (h : Sl w B z A n xs) (hm : ∃ es m, w.heap[b]? = some (.map es m)) (hk : ∀ q, q < B → q ≠ b → w'.heap[q]? = w.heap[q]?) : Sl w' B z A n xs :=
  ⟨h.1, fun h0 => by
    obtain ⟨es, m, hm⟩ := hm
    obtain ⟨a, ha, hb, hc⟩ := h.2 h0
    refine ⟨a, ha, hb, fun j u hu => ?_⟩
    have h1 := hc j u hu
    have hbl : (a.add j).block = a.block := add_block a j
    have hne : a.block ≠ b := fun e => by
      unfold World.cell? at h1
      rw [hbl, e, hm] at h1
      simp at h1
    rw [← h1]
    exact World.cell?_of_block (by rw [hbl]; exact hk a.block hb hne)⟩
/-- the rows of the classes of S, each with its table -/
def Rows (w : World) (h : Nat) (l : List Cls) (tpb : Int) (S : List Int) (f : Int → Option Rw) : Prop :=
  ∀ id, (id ∈ S → ∃ T, f id = some ⟨uAt l id, spareS l id, some T⟩ ∧ h < T ∧ T < w.heap.size ∧ Row w T 251 (tabS tpb (uAt l id))) ∧ (id ∉ S → f id = none)
theorem Rows.nil (w : World) (h : Nat) (l : List Cls) (tpb : Int) : Rows w h l tpb [] (fun _ => none) := fun id => ⟨fun h => (by cases h), fun _ => rfl⟩
theorem Rows.below {w w' : World} {h : Nat} {l : List Cls} {tpb : Int} {S : List Int} {f : Int → Option Rw} (r : Rows w h l tpb S f) (hb : Below w.heap.size w w') : Rows w' h l tpb S f := fun id =>
  ⟨fun hi => by
    obtain ⟨T, h1, h2, h3, h4⟩ := (r id).1 hi
    exact ⟨T, h1, h2, Nat.lt_of_lt_of_le h3 hb.size, h4.below hb h3⟩, (r id).2⟩
theorem Rows.put {w w' : World} {h : Nat} {l : List Cls} {tpb : Int} {S : List Int} {f : Int → Option Rw} (r : Rows w h l tpb S f) (hg : w.grownBy w' (some h)) {y : Int} {T : Nat} (hT : h < T) (hTl : T < w.heap.size) (hR : Row w T 251 (tabS tpb (uAt l y))) :
    Rows w' h l tpb (S ++ [y]) (fun i => if i = y then some ⟨uAt l y, spareS l y, some T⟩ else f i) := fun id =>
  ⟨fun hi => by
    by_cases e : id = y
    · subst e
      exact ⟨T, by simp, hT, Nat.lt_of_lt_of_le hTl hg.size, (hg.block T hTl (fun e => by injection e with e; omega)).trans hR⟩
    · have hi2 : id ∈ S := by
        rcases List.mem_append.1 hi with h1 | h1
        · exact h1
        · simp at h1; exact absurd h1 e
      obtain ⟨T', h1, h2, h3, h4⟩ := (r id).1 hi2
      exact ⟨T', by simp only [if_neg e]; exact h1, h2, Nat.lt_of_lt_of_le h3 hg.size, (hg.block T' h3 (fun e => by injection e with e; omega)).trans h4⟩,
   fun hn => by
    have e : id ≠ y := fun e => hn (by rw [e]; simp)
    simp only [if_neg e]
    exact (r id).2 (fun h1 => hn (List.mem_append_left _ h1))⟩
/-- a quota lies at q, all of it below B -/
def QuotaAt (w : World) (B q : Nat) (l : List Cls) (tpb : Int) : Prop := ∃ (h : Nat) (A : Option Addr) (c : Nat) (f : Int → Option Rw), q < B ∧ h < B ∧
  w.heap[q]? = some (.cells #[.map (some h), .slice A (leavesS l).length c] 203 (0, 0)) ∧
  Sl w B 1 A (leavesS l).length (St.I (leavesS l)) ∧ At Rw.val Rw.enc Rw.nil Tryz.prog 3 w h 64 f ∧
  ∀ id, (id ∈ ids l → ∃ T, f id = some ⟨uAt l id, spareS l id, some T⟩ ∧ T < B ∧ Row w T 251 (tabS tpb (uAt l id))) ∧ (id ∉ ids l → f id = none)
theorem QuotaAt.below {w w' : World} {B q : Nat} {l : List Cls} {tpb : Int} (hb : Below B w w') (t : QuotaAt w B q l tpb) : QuotaAt w' B q l tpb := by
  obtain ⟨h, A, c, f, hq, hh, h1, h2, h3, h4⟩ := t
  refine ⟨h, A, c, f, hq, hh, (hb.block _ hq).trans h1, h2.below hb, h3.below hb hh, fun id => ⟨fun hi => ?_, (h4 id).2⟩⟩
  obtain ⟨T, e1, e2, e3⟩ := (h4 id).1 hi
  exact ⟨T, e1, e2, e3.below hb e2⟩
theorem QuotaAt.up {w : World} {B B' q : Nat} {l : List Cls} {tpb : Int} (hB : B ≤ B') (t : QuotaAt w B q l tpb) : QuotaAt w B' q l tpb := by
  obtain ⟨h, A, c, f, hq, hh, h1, h2, h3, h4⟩ := t
  refine ⟨h, A, c, f, by omega, by omega, h1, h2.more hB, h3, fun id => ⟨fun hi => ?_, (h4 id).2⟩⟩
  obtain ⟨T, e1, e2, e3⟩ := (h4 id).1 hi
  exact ⟨T, e1, by omega, e3⟩
def QNewOk (l : List Cls) (tpb : Int) (w : World) (e : Ending) (w' : World) : Prop :=
  (quotaB l = false ∧ e = .returned (.tuple #[.pointer none, .int .i64 13]) ∧ Below w.heap.size w w') ∨
  (quotaB l = true ∧ tpbB tpb = false ∧ e = .returned (.tuple #[.pointer none, .int .i64 2]) ∧ Below w.heap.size w w') ∨
  (quotaB l = true ∧ tpbB tpb = true ∧ ∃ q, e = .returned (.tuple #[.pointer (some ⟨q, 0, none⟩), .int .i64 0]) ∧ QuotaAt w' w'.heap.size q l tpb ∧ w.heap.size ≤ q ∧ Below w.heap.size w w')
set_option maxRecDepth 20000 in
set_option maxHeartbeats 2000000 in
theorem newq_c (T : Nat) (l : List Cls) (R : Tp.Tree l) (hs : ∀ c ∈ l, c.share < 18446744073709551616) (tpb : Int) (w : World) (hT : TreeAt w w.heap.size T l) :
    Calls Tryz.prog 58 #[.pointer (some ⟨T, 0, none⟩), .int .i64 tpb] w (QNewOk l tpb w) := by
  have h64 := R.le
  have hil := ids_len l
  have HCK := Lib.hid (qcheck_c T l R hs w hT)
  unfold RetI2 at HCK
  have HTu := Lib.hid (fun u (hu : Below w.heap.size w u) => (hT.below hu).up hu.size)
  have HR := Lib.hid R; have HS := Lib.hid hs
  clear hT hs R
  cases hq : quotaB l with
  | false =>
    have HQ := Lib.hid hq
    rw [quotaI_no hq] at HCK
    clear hq
    go_enter Tryz.func58, Tryz.ntmps58
    go_wp2_with (go_at_call 130; (with_reducible refine (HCK.out).mono ?_); rintro e w1 ⟨rfl, hb1⟩; have HB1 := Lib.hid hb1; clear hb1)
    go_ret2
    exact .inl ⟨HQ.out, rfl, HB1.out⟩
  | true =>
    have HQ := Lib.hid hq
    rw [quotaI_yes hq] at HCK
    clear hq
    have HLV := Lib.hid (fun u (hu : TreeAt u u.heap.size T l) => tleaves_c T l HR.out u hu)
    have HID := Lib.hid (fun u (hu : TreeAt u u.heap.size T l) => tids_c T l h64 u hu)
    unfold ListOk at HLV HID
    have hmm := @run_makeMap Tryz.prog
    go_enter Tryz.func58, Tryz.ntmps58
    go_upto_region 4 with (go_at_call 130; (with_reducible refine (HCK.out).mono ?_); rintro e w1 ⟨rfl, hb1⟩; have HB1 := Lib.hid hb1; clear hb1)
    have hw1 := HB1.out.size
    have hM0 := heap_alloc_new w1 (.map #[] 0)
    have hBM : Below w.heap.size w (w1.alloc (.map #[] 0)) := HB1.out.alloc hw1 _
    have HM0 := Lib.hid hM0; have HBM := Lib.hid hBM
    clear hM0 hBM HCK
    go_upto_region 5 with (go_at_call 20; (with_reducible refine (HLV.out _ (HTu.out _ HBM.out)).mono ?_); rintro e w2 ⟨A2, c2, rfl, hs2, hb2⟩; have HS2 := Lib.hid hs2; have HB2 := Lib.hid hb2; clear hs2 hb2)
    have hHQ := heap_alloc_new w2 (.cells #[.map (some w1.heap.size), .slice A2 (leavesS l).length c2] 203)
    have hw2 := HB2.out.size
    have hsz1 : (w1.alloc (.map #[] 0)).heap.size = w1.heap.size + 1 := by simp
    have hmq : (w2.alloc (.cells #[.map (some w1.heap.size), .slice A2 (leavesS l).length c2] 203)).heap[w1.heap.size]? = some (.map #[] 0) := (Below.heap_alloc w2 _ _ (by omega)).trans ((HB2.out.block _ (by omega)).trans HM0.out)
    have hmq2 : w2.heap[w1.heap.size]? = some (.map #[] 0) := (HB2.out.block _ (by omega)).trans HM0.out
    have hBq : Below w.heap.size w (w2.alloc (.cells #[.map (some w1.heap.size), .slice A2 (leavesS l).length c2] 203)) := (HBM.out.trans (HB2.out.mono HBM.out.size)).alloc (by omega) _
    have hW2 : ∀ b, b < w2.heap.size → (w2.alloc (.cells #[.map (some w1.heap.size), .slice A2 (leavesS l).length c2] 203)).heap[b]? = w2.heap[b]? := fun b hb => Below.heap_alloc w2 _ _ hb
    have hzq : (w2.alloc (.cells #[.map (some w1.heap.size), .slice A2 (leavesS l).length c2] 203)).heap.size = w2.heap.size + 1 := by simp
    generalize World.alloc w2 _ = Wq at *
    obtain ⟨h, hh⟩ : ∃ h, h = w1.heap.size := ⟨_, rfl⟩
    rw [← hh] at hHQ hmq hmq2 hsz1 hw1 ⊢
    have hh2 : h < w2.heap.size := by omega
    have HHQ := Lib.hid hHQ; have HMQ := Lib.hid hmq; have HBQ := Lib.hid hBq; have HW2 := Lib.hid hW2; have HM2 := Lib.hid hmq2
    clear hHQ hmq hBq hW2 hmq2 HM0 HB2 HBM HB1 hh
    go_upto_region 6 with (go_at_call 23; (with_reducible refine (HID.out _ (HTu.out _ HBQ.out)).mono ?_); rintro e w3 ⟨A3, c3, rfl, hs3, hb3⟩; have HS3 := Lib.hid hs3; have HB3 := Lib.hid hb3; clear hs3 hb3)
    have hw3 := HB3.out.size
    have hM3 : w3.heap[h]? = some (.map #[] 0) := (HB3.out.block _ (by omega)).trans HMQ.out
    have HM3 := Lib.hid hM3
    have HQ3 := Lib.hid ((HB3.out.block w2.heap.size (by omega)).trans HHQ.out)
    have HBW3 := Lib.hid (HBQ.out.trans (HB3.out.mono HBQ.out.size))
    have HS23 := Lib.hid (sl_apart HS2.out ⟨_, _, HM2.out⟩ (fun b hb hne => (HB3.out.block b (by omega)).trans (HW2.out b hb)))
    have hwW := HBW3.out.size
    have HMEM := Lib.hid (fun (i : Int) (h : i ∈ ids (sortC l)) => (sort_ids i).1 h)
    have HEQ := Lib.hid (fun (i : Int) => sort_ids (l := l) i)
    have HSP := Lib.hid (fun u (hu : Below w.heap.size w u) i hi => spare_c T l HR.out HS.out i hi u (HTu.out u hu))
    obtain ⟨zs, hzs⟩ : ∃ zs, zs = ids (sortC l) := ⟨_, rfl⟩
    rw [← hzs] at HS3 HMEM HEQ hil
    have hzl : zs.length ≤ 64 := by omega
    have hw23 : w2.heap.size < w3.heap.size := by omega
    clear hM3 hzs HBQ HHQ HMQ HW2 HB3 HID HLV hzq hw2 HM2
    obtain ⟨qb, hqb⟩ : ∃ q, q = tpbB tpb := ⟨_, rfl⟩
    have HTB := Lib.hid hqb
    cases qb with
    | false =>
      have hne := HR.out.ne
      go_loopg [27] 0 (fun kx s27 wr => s27 = .int .i64 0 ∧ wr = w3)
      case atStart => exact ⟨rfl, rfl⟩
      case round =>
        obtain ⟨rfl, rfl⟩ := hrel
        have hltz : (0 : Int) < (zs.length : Int) := by omega
        obtain ⟨a, v, rfl, hab, hv, hc⟩ := HS3.out.cell1 (k := 0) (by omega)
        unfold St.I at hv
        simp only [List.getElem?_map] at hv
        obtain ⟨y, hy0, rfl⟩ := Option.map_eq_some_iff.1 hv
        have hyi := HMEM.out y (List.mem_of_getElem? hy0)
        have HSY := Lib.hid (HSP.out wr HBW3.out y hyi)
        have hrt : rateI tpb (uAt l y : Int) = false := by rw [rate_tpb (uAt_pos HR.out hyi) (uAt_le HS.out y), ← hqb]
        have HNT := Lib.hid (fun u => newtab_c tpb (uAt l y : Int) u)
        unfold NewTab at HNT
        have HRT := Lib.hid hrt
        clear hv hy0 hyi hqb hrt
        generalize spareS l y = sp at *
        generalize uAt l y = uy at *
        have hc0 : wr.cell? a = some (.int .i64 y) := by have := hc; rwa [show a.add 0 = a from by unfold Addr.add; simp] at this
        go_wp2_with (first
          | (go_at_call 131; (with_reducible refine (HSY.out).mono ?_); rintro e w4 ⟨rfl, hb4⟩; have HB4 := Lib.hid hb4; clear hb4)
          | (go_at_call 132; (with_reducible refine (HNT.out _).mono ?_); rintro e w5 (⟨_, rfl, hb5⟩ | ⟨hn, _⟩); rotate_left; exact absurd hn (by rw [HRT.out]; decide); have HB5 := Lib.hid (HB4.out.trans (hb5.mono HB4.out.size)); clear hb5))
        go_ret2
        exact .inr (.inl ⟨HQ.out, HTB.out.symm, rfl, HBW3.out.trans (HB5.out.mono hwW)⟩)
    | true =>
      go_loopg [27] zs.length (fun kx s27 wr => ∃ (k : Nat) (f : Int → Option Rw), s27 = .int .i64 k ∧ k ≤ zs.length ∧ zs.length - k ≤ kx ∧ Hid (At Rw.val Rw.enc Rw.nil Tryz.prog 3 wr h k f) ∧ Hid (Rows wr h l tpb (zs.take k) f) ∧ Hid (wr.heap[w2.heap.size]? = some (.cells #[.map (some h), .slice A2 (leavesS l).length c2] 203 (0, 0))) ∧
        Hid (∀ b, b < w3.heap.size → b ≠ h → wr.heap[b]? = w3.heap[b]?) ∧ w3.heap.size ≤ wr.heap.size ∧ Hid (Below w.heap.size w wr))
      case atStart => exact ⟨0, fun _ => none, rfl, by omega, by omega, Lib.hid (At.made_block HM3.out), Lib.hid (Rows.nil _ _ _ _), HQ3, Lib.hid (fun _ _ _ => rfl), Nat.le_refl _, HBW3⟩
      case round =>
        obtain ⟨k, f, rfl, hk, hkx, HA, HRW, HQB, HK, hws, HW⟩ := hrel
        have hwz := HW.out.size
        have HS3r := Lib.hid (sl_apart HS3.out ⟨_, _, HM3.out⟩ HK.out)
        by_cases hlt : k < zs.length
        · have hltz : (k : Int) < (zs.length : Int) := by omega
          obtain ⟨a, v, rfl, hab, hv, hc⟩ := HS3r.out.cell1 (k := k) hlt
          unfold St.I at hv
          simp only [List.getElem?_map] at hv
          obtain ⟨y, hy0, rfl⟩ := Option.map_eq_some_iff.1 hv
          have hyi := HMEM.out y (List.mem_of_getElem? hy0)
          have hyp := ids_pos HR.out.good hyi
          have hwfy : (Lit.int .i64 y).wf = true := wf_id (i := y) (by omega)
          have HSY := Lib.hid (HSP.out wr HW.out y hyi)
          have hrt : rateI tpb (uAt l y : Int) = true := by rw [rate_tpb (uAt_pos HR.out hyi) (uAt_le HS.out y), ← hqb]
          have HNT := Lib.hid (fun u => newtab_c tpb (uAt l y : Int) u)
          unfold NewTab at HNT
          have HRT := Lib.hid hrt
          have HTK := Lib.hid (show zs.take (k + 1) = zs.take k ++ [y] by rw [List.take_add_one, hy0]; rfl)
          have HPUT := Lib.hid (fun (u u' : World) (r : Rows u h l tpb (zs.take k) f) (hg : u.grownBy u' (some h)) (X : Nat) (h1 : h < X) (h2 : X < u.heap.size) (h3 : Row u X 251 (tabS tpb (uAt l y))) => r.put hg h1 h2 h3)
          clear hv hy0 hyi hyp hqb hrt
          generalize hsp : spareS l y = sp at *
          generalize huy : uAt l y = uy at *
          clear hsp huy
          go_upto_region 12 with (first
            | (go_at_call 131; (with_reducible refine (HSY.out).mono ?_); rintro e w4 ⟨rfl, hb4⟩; have HB4 := Lib.hid hb4; clear hb4)
            | (go_at_call 132; (with_reducible refine (HNT.out _).mono ?_); rintro e w5 (⟨hn, _⟩ | ⟨_, X, rfl, hX, hXl, hb5⟩); exact absurd hn (by rw [HRT.out]; decide); have HX := Lib.hid hX; have HB5 := Lib.hid (HB4.out.trans (hb5.mono HB4.out.size)); have HB4s := HB4.out.size; clear hb5))
          have hq5 := (HB5.out.block w2.heap.size (by omega)).trans HQB.out
          have hXw := HX.out.lt
          have HQ5 := Lib.hid hq5
          have HA5 := Lib.hid (HA.out.block (w' := w5) (HB5.out.block h (by omega)))
          have HR5 := Lib.hid (HRW.out.below HB5.out)
          have c0 : w5.cell? ⟨w2.heap.size, 0, none⟩ = some (.map (some h)) := cells_at hq5 0 _ rfl
          have HXh : h < X := by omega
          have h5 := HB5.out.size
          clear hq5 hc
          go_wp2_with (refine wpList_put rw_kind (by rfl) _ _ _ 201 (by rfl) 3 210 Tryz.underlying3 Tryz.underlying201 Rw.nil h k f _ (by rfl) HA5.out (by omega) y ⟨uy, sp, some X⟩ (by rfl) (by rfl) hwfy ?_; intro w7 hm7 hg7; have HM7 := Lib.hid hm7; have HG7 := Lib.hid hg7; clear hm7 hg7)
          go_roundg (zs.length - (k + 1))
          case measure => omega
          case rel =>
            have h7 := HG7.out.size
            exact ⟨k + 1, _, by go_num, by omega, by omega, HM7, Lib.hid (by rw [HTK.out]; exact HPUT.out w5 w7 HR5.out HG7.out X HXh hXw HX.out), Lib.hid ((HG7.out.block w2.heap.size (by omega) (fun e => by injection e with e; omega)).trans HQ5.out),
              Lib.hid (fun b hb hne => (HG7.out.block b (by omega) (fun e => hne (by injection e))).trans ((HB5.out.block b (by omega)).trans (HK.out b hb hne))), by omega, Lib.hid ((HW.out.trans (HB5.out.mono hwz)).grown HG7.out (by omega) (fun q hq => by injection hq with hq; omega))⟩
        · have hltz : ¬ (k : Int) < (zs.length : Int) := by omega
          obtain rfl : k = zs.length := by omega
          have hrt := HRW.out
          rw [List.take_length] at hrt
          have HRT := Lib.hid hrt
          clear hrt
          go_wp2
          go_ret2
          refine .inr (.inr ⟨HQ.out, HTB.out.symm, w2.heap.size, rfl, ?_, by omega, HW.out⟩)
          refine ⟨h, A2, c2, f, by omega, by omega, HQB.out, (sl_apart HS23.out ⟨_, _, HM3.out⟩ (fun b hb hne => HK.out b (by omega) hne)).more (by omega), HA.out.more hzl, fun id => ⟨fun hi => ?_, fun hn => (HRT.out id).2 (fun h1 => hn ((HEQ.out id).1 h1))⟩⟩
          obtain ⟨X, e1, e2, e3, e4⟩ := (HRT.out id).1 ((HEQ.out id).2 hi)
          exact ⟨X, e1, e3, e4⟩
end Go.Proofs.YtpchhfhmopmagaaGreat.Qu

/- What a quota tells: of a class; of all leaves. -/
namespace Go.Proofs.YtpchhfhmopmagaaGreat.Qu
open Go.RowKit Go.Maps Go.Proofs.YtpchhfhmopmagaaGreat.Fl Go.Proofs.YtpchhfhmopmagaaGreat.Wd Go.Proofs.YtpchhfhmopmagaaGreat.Li Go.Proofs.YtpchhfhmopmagaaGreat.Mp Go.Proofs.YtpchhfhmopmagaaGreat.Tp Go.Proofs.YtpchhfhmopmagaaGreat.Tr Go.Proofs.YtpchhfhmopmagaaGreat.Cl Go.Proofs.YtpchhfhmopmagaaGreat.So Go.Proofs.YtpchhfhmopmagaaGreat.Sw
attribute [local go_sem] run_store_float

theorem zrow (w : World) : (zeroValue 210).run Tryz.prog w = .ok (Rw.val Rw.nil) w := by kernel_rfl
/-- what a quota has for a class -/
def RowOk (w : World) (l : List Cls) (tpb : Int) (id : Int) (r : Rw) : Prop :=
  (id ∈ ids l → ∃ T, r = ⟨uAt l id, spareS l id, some T⟩ ∧ T < w.heap.size ∧ Row w T 251 (tabS tpb (uAt l id))) ∧ (id ∉ ids l → r = Rw.nil)
set_option maxRecDepth 20000 in
set_option maxHeartbeats 1000000 in
theorem qat_c (q : Nat) (l : List Cls) (tpb id : Int) (hid : (Lit.int .i64 id).wf = true) (w : World) (hQ : QuotaAt w w.heap.size q l tpb) :
    Calls Tryz.prog 144 #[.pointer (some ⟨q, 0, none⟩), .int .i64 id] w fun e w' => ∃ r : Rw, e = .returned r.val ∧ Below w.heap.size w w' ∧ RowOk w l tpb id r := by
  obtain ⟨h, A, c, f, hq, hh, h1, _, hm, hr⟩ := hQ
  have hb0 : Below w.heap.size w (w.alloc (.cells #[.int .i64 0, .int .i64 0, .pointer none] 210)) := (Below.refl _ w).alloc (Nat.le_refl _) _
  have hh0 := heap_alloc_new w (.cells #[.int .i64 0, .int .i64 0, .pointer none] 210)
  have hs0 : (w.alloc (.cells #[.int .i64 0, .int .i64 0, .pointer none] 210)).heap.size = w.heap.size + 1 := by simp
  have hQ1 := (hb0.block _ hq).trans h1
  have hm1 := hm.below hb0 hh
  generalize hw1 : World.alloc w _ = w1 at *
  have t0 := cells_at hQ1 0 _ rfl
  have hlook := hm1.look rw_kind Tryz.underlying3 Tryz.underlying201 (zrow w1) hid
  obtain ⟨r, hrd⟩ : ∃ r, r = (f id).getD Rw.nil := ⟨_, rfl⟩
  have HRO := Lib.hid (show RowOk w l tpb id r from ⟨fun hi => by
    obtain ⟨T, e1, e2, e3⟩ := (hr id).1 hi
    exact ⟨T, by rw [hrd, e1]; rfl, e2, e3⟩, fun hn => by rw [hrd, (hr id).2 hn]; rfl⟩)
  rw [← hrd] at hlook
  have HV := Lib.hid (show r.val = .agg #[.int .i64 r.u, .int .i64 r.s, .pointer (r.t.map fun b => ⟨b, 0, none⟩)] from rfl)
  rw [HV.out] at hlook
  generalize hp : r.t.map (fun b => (⟨b, 0, none⟩ : Addr)) = p at *
  have HB0 := Lib.hid hb0; have HH0 := Lib.hid hh0; have HW1 := Lib.hid hw1; have HS0 := Lib.hid hs0
  clear hm hm1 hQ1 hb0 hh0 hs0 hr h1 hrd hp
  clear hw1
  go_enter Tryz.func144, Tryz.ntmps144
  go_upto_region 3 with fail
  rw [HW1.out]
  go_wp2_with (first | (refine wpList_store_whole (by rfl) 210 _ _ (by rfl) 3 Tryz.sizeOf210 w.heap.size _ _ 210 (by rfl) (by rfl) HH0.out (by rfl) (by rfl) (by simp [Value.oneCell']) ?_; intro w5 hb5 hg5; have r0 := cells_at hb5 0 _ rfl; have r1 := cells_at hb5 1 _ rfl; have r2 := cells_at hb5 2 _ rfl; have HG5 := Lib.hid hg5; clear hb5 hg5))
  (try simp only [Exit.inBlock, Exit.then])
  refine bodyPost_ret (v := .agg #[.int .i64 r.u, .int .i64 r.s, .pointer p]) (by simp [results, Tryz.results144, go_sem, r0, r1, r2]) rfl ?_
  exact ⟨r, by rw [HV.out], HB0.out.grown HG5.out (by have := HS0.out; omega) (fun q hq => by injection hq; omega), HRO.out⟩
end Go.Proofs.YtpchhfhmopmagaaGreat.Qu

/- A quota's methods. -/
namespace Go.Proofs.YtpchhfhmopmagaaGreat.Qu
open Go.RowKit Go.Maps Go.Proofs.YtpchhfhmopmagaaGreat.Fl Go.Proofs.YtpchhfhmopmagaaGreat.Wd Go.Proofs.YtpchhfhmopmagaaGreat.Li Go.Proofs.YtpchhfhmopmagaaGreat.Mp Go.Proofs.YtpchhfhmopmagaaGreat.Tp Go.Proofs.YtpchhfhmopmagaaGreat.Tr Go.Proofs.YtpchhfhmopmagaaGreat.Cl Go.Proofs.YtpchhfhmopmagaaGreat.So Go.Proofs.YtpchhfhmopmagaaGreat.Sw
attribute [local go_sem] run_store_float

/-- the pointer is a quota's over l, or nil -/
def QuotaV (w : World) (B : Nat) (v : Value) (l : List Cls) (tpb : Int) : Prop := (v = .pointer none ∧ l = []) ∨ ∃ q, v = .pointer (some ⟨q, 0, none⟩) ∧ QuotaAt w B q l tpb
theorem QuotaV.below {w w' : World} {B : Nat} {v : Value} {l : List Cls} {tpb : Int} (hb : Below B w w') (t : QuotaV w B v l tpb) : QuotaV w' B v l tpb := by
  rcases t with h | ⟨q, e, h⟩
  · exact .inl h
  · exact .inr ⟨q, e, h.below hb⟩
theorem QuotaV.up {w : World} {B B' : Nat} {v : Value} {l : List Cls} {tpb : Int} (hB : B ≤ B') (t : QuotaV w B v l tpb) : QuotaV w B' v l tpb := by
  rcases t with h | ⟨q, e, h⟩
  · exact .inl h
  · exact .inr ⟨q, e, h.up hB⟩
theorem qat_none (id : Int) (w : World) : Calls Tryz.prog 144 #[.pointer none, .int .i64 id] w fun e w' => e = .returned (.agg #[.int .i64 0, .int .i64 0, .pointer none]) ∧ Below w.heap.size w w' := by
  have hh0 := heap_alloc_new w (.cells #[.int .i64 0, .int .i64 0, .pointer none] 210)
  have hB := (Below.refl w.heap.size w).alloc (Nat.le_refl _) (.cells #[.int .i64 0, .int .i64 0, .pointer none] 210)
  have HB := Lib.hid hB
  clear hh0 hB
  go_enter Tryz.func144, Tryz.ntmps144
  go_wp2
  (try simp only [Exit.inBlock, Exit.then])
  refine bodyPost_ret (v := .agg #[.int .i64 0, .int .i64 0, .pointer none]) (by simp [results, Tryz.results144, go_sem]) rfl ?_
  exact ⟨rfl, HB.out⟩
/-- at, whatever the quota -/
theorem vat_c (v : Value) (l : List Cls) (tpb id : Int) (hid : (Lit.int .i64 id).wf = true) (w : World) (hQ : QuotaV w w.heap.size v l tpb) :
    Calls Tryz.prog 144 #[v, .int .i64 id] w fun e w' => ∃ r : Rw, e = .returned r.val ∧ Below w.heap.size w w' ∧ RowOk w l tpb id r := by
  rcases hQ with ⟨rfl, rfl⟩ | ⟨q, rfl, h⟩
  · exact (qat_none id w).mono fun e w' ⟨h1, h2⟩ => ⟨Rw.nil, h1, h2, fun hi => (by cases hi), fun _ => rfl⟩
  · exact qat_c q l tpb id hid w h
/-- what is spare, nothing where there is no such class -/
def spQ (l : List Cls) (id : Int) : Int := if id ∈ ids l then spareS l id else 0
theorem row_u {w : World} {l : List Cls} {tpb id : Int} {r : Rw} (h : RowOk w l tpb id r) : r.u = (uAt l id : Int) := by
  by_cases hi : id ∈ ids l
  · obtain ⟨T, rfl, _⟩ := h.1 hi; rfl
  · rw [h.2 hi, uAt_none (at_none.2 hi)]; rfl
theorem row_s {w : World} {l : List Cls} {tpb id : Int} {r : Rw} (h : RowOk w l tpb id r) : r.s = spQ l id := by
  unfold spQ
  by_cases hi : id ∈ ids l
  · obtain ⟨T, rfl, _⟩ := h.1 hi; rw [if_pos hi]
  · rw [h.2 hi, if_neg hi]; rfl
@[go_sem] theorem row_0 (a b : Int) (c : Option Addr) (w : World) : (Instr.field 210 (.agg #[.int .i64 a, .int .i64 b, .pointer c]) 0).run Tryz.prog w = .ok (.int .i64 a) w := by kernel_rfl
@[go_sem] theorem row_1 (a b : Int) (c : Option Addr) (w : World) : (Instr.field 210 (.agg #[.int .i64 a, .int .i64 b, .pointer c]) 1).run Tryz.prog w = .ok (.int .i64 b) w := by kernel_rfl
@[go_sem] theorem row_2 (a b : Int) (c : Option Addr) (w : World) : (Instr.field 210 (.agg #[.int .i64 a, .int .i64 b, .pointer c]) 2).run Tryz.prog w = .ok (.pointer c) w := by kernel_rfl
/-- at, in parts -/
def AtOk (l : List Cls) (tpb id : Int) (w : World) (e : Ending) (w' : World) : Prop := ∃ p, e = .returned (.agg #[.int .i64 (uAt l id : Int), .int .i64 (spQ l id), .pointer p]) ∧ Below w.heap.size w w' ∧
  (id ∈ ids l → ∃ T, p = some ⟨T, 0, none⟩ ∧ Row w' T 251 (tabS tpb (uAt l id))) ∧ (id ∉ ids l → p = none)
theorem vat2_c (v : Value) (l : List Cls) (tpb id : Int) (hid : (Lit.int .i64 id).wf = true) (w : World) (hQ : QuotaV w w.heap.size v l tpb) :
    Calls Tryz.prog 144 #[v, .int .i64 id] w (AtOk l tpb id w) :=
  (vat_c v l tpb id hid w hQ).mono fun e w' ⟨r, h1, h2, h3⟩ => ⟨r.t.map (fun b => ⟨b, 0, none⟩), by rw [h1, ← row_u h3, ← row_s h3]; rfl, h2, fun hi => by
    obtain ⟨T, e1, e2, e3⟩ := h3.1 hi
    exact ⟨T, by rw [e1]; rfl, e3.below h2 e2⟩, fun hn => by rw [h3.2 hn]; rfl⟩
theorem exact_no (tpb n : Int) : exactS tpb 0 n = 0 := by
  unfold exactS rateI
  have : decide ((1 : Int) ≤ 0) = false := by decide
  rw [this]; simp
set_option maxRecDepth 20000 in
set_option maxHeartbeats 1000000 in
theorem qtime_c (v : Value) (l : List Cls) (tpb id n : Int) (hid : (Lit.int .i64 id).wf = true) (w : World) (hQ : QuotaV w w.heap.size v l tpb) :
    Calls Tryz.prog 66 #[v, .int .i64 id, .int .i64 n] w fun e w' => e = .returned (.int .i64 (exactS tpb (uAt l id : Int) n : Int)) ∧ Below w.heap.size w w' := by
  have HA := Lib.hid (vat2_c v l tpb id hid w hQ)
  unfold AtOk at HA
  clear hQ
  by_cases hi : id ∈ ids l
  · have HI := Lib.hid hi
    clear hi
    have HT := Lib.hid (fun T u (h : Row u T 251 (tabS tpb (uAt l id : Int))) => time_c T tpb (uAt l id : Int) n u h)
    generalize exactS tpb (uAt l id : Int) n = x at *
    go_enter Tryz.func66, Tryz.ntmps66
    go_wp2_with (first
      | (go_at_call 144; (with_reducible refine (HA.out).mono ?_); rintro e w1 ⟨p, rfl, hb1, hro, _⟩; obtain ⟨T, rfl, hR⟩ := hro HI.out; have HRT := Lib.hid hR; have HB1 := Lib.hid hb1; clear hb1 hro hR)
      | (go_at_call 145; (with_reducible refine (HT.out T _ HRT.out).mono ?_); rintro e w2 ⟨rfl, hb2⟩; have HB2 := Lib.hid (HB1.out.trans (hb2.mono HB1.out.size)); clear hb2))
    go_ret
    exact ⟨rfl, HB2.out⟩
  · have HI := Lib.hid hi
    have HX := Lib.hid (show exactS tpb (uAt l id : Int) n = 0 by rw [uAt_none (at_none.2 hi)]; exact exact_no tpb n)
    clear hi
    have HT := Lib.hid (fun u => time_none n u)
    go_enter Tryz.func66, Tryz.ntmps66
    go_wp2_with (first
      | (go_at_call 144; (with_reducible refine (HA.out).mono ?_); rintro e w1 ⟨p, rfl, hb1, _, hro⟩; obtain rfl := hro HI.out; have HB1 := Lib.hid hb1; clear hb1 hro)
      | (go_at_call 145; (with_reducible refine (HT.out _).mono ?_); rintro e w2 ⟨rfl, rfl⟩))
    go_ret
    exact ⟨by rw [HX.out]; rfl, HB1.out⟩
end Go.Proofs.YtpchhfhmopmagaaGreat.Qu

/- The document's quotas. -/
namespace Go.Proofs.YtpchhfhmopmagaaGreat.Qu
open Go.RowKit Go.Maps Go.Proofs.YtpchhfhmopmagaaGreat.Fl Go.Proofs.YtpchhfhmopmagaaGreat.Wd Go.Proofs.YtpchhfhmopmagaaGreat.Li Go.Proofs.YtpchhfhmopmagaaGreat.Mp Go.Proofs.YtpchhfhmopmagaaGreat.Tp Go.Proofs.YtpchhfhmopmagaaGreat.Tr Go.Proofs.YtpchhfhmopmagaaGreat.Cl Go.Proofs.YtpchhfhmopmagaaGreat.So Go.Proofs.YtpchhfhmopmagaaGreat.Sw
attribute [local go_sem] run_store_float

set_option maxRecDepth 20000 in
set_option maxHeartbeats 1000000 in
theorem rqunits_c (A : Option Addr) (cap : Nat) (l : List Cls) (hs : ∀ c ∈ l, c.share < 18446744073709551616) (hlen : l.length ≤ 1048576) (id : Int) (w : World) (hI : Holds w.heap.size w (.slice A l.length cap) l) :
    Calls Tryz.prog 154 #[.slice A l.length cap, .int .i64 id] w fun e w' => e = .returned (.int .i64 (uAt l id : Int)) ∧ Below w.heap.size w w' := by
  have hfind := reffind_c A l.length cap w.heap.size l id hlen w hI
  rcases find_at (zs := l) (id := id) with ⟨hf, ha⟩ | ⟨i, c, hf, hc, ha⟩
  · have hfz : findC l id < 0 := hf
    have HU := Lib.hid (uAt_none ha)
    have HF := Lib.hid hfind
    clear hfind hf ha hI hs
    go_enter Tryz.func154, Tryz.ntmps154
    go_wp2_with (go_at_call 72; (with_reducible refine (HF.out).mono ?_); rintro e w9 ⟨rfl, hw9⟩; subst w9)
    go_ret
    exact ⟨by rw [HU.out]; rfl, Below.refl _ _⟩
  · have hil := (List.getElem?_eq_some_iff.1 hc).1
    obtain ⟨_, hcs⟩ := holds_parts hI
    obtain ⟨b, off, rfl, hb, hcc⟩ := hcs (by omega)
    have hh := hcc i c hc
    have c0 : w.cell? ⟨b, off + i * 11, none⟩ = some (.int .i64 c.id) := hh 0 _ rfl
    have c1 := hh 1 _ rfl; have c2 := hh 2 _ rfl; have c3 := hh 3 _ rfl; have c4 := hh 4 _ rfl; have c5 := hh 5 _ rfl; have c6 := hh 6 _ rfl; have c7 := hh 7 _ rfl; have c8 := hh 8 _ rfl; have c9 := hh 9 _ rfl; have c10 := hh 10 _ rfl
    have hilz : (i : Int) < (l.length : Int) := by omega
    have hfz : ¬ (i : Int) < 0 := by omega
    have hun := fun w => refunitsc_any c (hs c (at_mem ha).1) w
    rw [show (unitsS c.share).1 = uAt l id by rw [uAt_some ha]; rfl] at hun
    unfold Cls.agg Ret1 at hun
    have HF := Lib.hid hfind
    rw [hf] at HF
    have HU := Lib.hid hun
    generalize uAt l id = u at *
    clear hfind hf ha hI hs hcs hcc hc hh hun
    go_enter Tryz.func154, Tryz.ntmps154
    go_wp2_with (first
      | (go_at_call 72; (with_reducible refine (HF.out).mono ?_); rintro e w9 ⟨rfl, hw9⟩; subst w9)
      | (go_at_call 215; (with_reducible refine (HU.out _).mono ?_); rintro e w1 ⟨rfl, hb1⟩; have HB1 := Lib.hid hb1; clear hb1))
    go_ret
    exact ⟨rfl, HB1.out⟩
set_option maxRecDepth 20000 in
set_option maxHeartbeats 1000000 in
theorem rqtime_c (A : Option Addr) (cap : Nat) (l : List Cls) (hs : ∀ c ∈ l, c.share < 18446744073709551616) (hlen : l.length ≤ 1048576) (tpb id n : Int) (hn : (Lit.int .i64 n).wf = true) (w : World) (hI : Holds w.heap.size w (.slice A l.length cap) l) :
    Calls Tryz.prog 73 #[.slice A l.length cap, .int .i64 tpb, .int .i64 id, .int .i64 n] w fun e w' => e = .returned (.int .i64 (exactS tpb (uAt l id : Int) n : Int)) ∧ Below w.heap.size w w' := by
  have HU := Lib.hid (rqunits_c A cap l hs hlen id w hI)
  have HX := Lib.hid (fun u => refexact_c tpb (uAt l id : Int) n hn u)
  generalize exactS tpb (uAt l id : Int) n = x at *
  generalize uAt l id = u at *
  clear hI hs
  go_enter Tryz.func73, Tryz.ntmps73
  go_wp2_with (first
    | (go_at_call 154; (with_reducible refine (HU.out).mono ?_); rintro e w1 ⟨rfl, hb1⟩; have HB1 := Lib.hid hb1; clear hb1)
    | (go_at_call 153; (with_reducible refine (HX.out _).mono ?_); rintro e w' ⟨rfl, rfl⟩))
  go_ret
  exact ⟨rfl, HB1.out⟩
end Go.Proofs.YtpchhfhmopmagaaGreat.Qu

/- What all leaves have together. -/
namespace Go.Proofs.YtpchhfhmopmagaaGreat.Qu
open Go.RowKit Go.Maps Go.Proofs.YtpchhfhmopmagaaGreat.Fl Go.Proofs.YtpchhfhmopmagaaGreat.Wd Go.Proofs.YtpchhfhmopmagaaGreat.Li Go.Proofs.YtpchhfhmopmagaaGreat.Mp Go.Proofs.YtpchhfhmopmagaaGreat.Tp Go.Proofs.YtpchhfhmopmagaaGreat.Tr Go.Proofs.YtpchhfhmopmagaaGreat.Cl Go.Proofs.YtpchhfhmopmagaaGreat.So Go.Proofs.YtpchhfhmopmagaaGreat.Sw
attribute [local go_sem] run_store_float

end Go.Proofs.YtpchhfhmopmagaaGreat.Qu
