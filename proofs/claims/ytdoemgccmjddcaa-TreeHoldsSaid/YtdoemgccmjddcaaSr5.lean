/- Differences that are held; the functions that went is handed. -/
import Derived.Test.YtdoemgccmjddcaaSr4
import Derived.Deep.RegionLaw
import Derived.Deep.RegionWith
namespace Go.Proofs.Ytdoemgccmjddcaa.Sr
open Go.RowKit Go.Maps Wd Li St

def hold (n : Int) : Int := if n < -1152921504606846976 then -1152921504606846976 else if 1152921504606846976 < n then 1152921504606846976 else n
theorem hold_ge (n : Int) : -1152921504606846976 ≤ hold n := by unfold hold; split; omega; split <;> omega
theorem hold_le (n : Int) : hold n ≤ 1152921504606846976 := by unfold hold; split; omega; split <;> omega
def subS (a b : Int) : Int := hold (hold a - hold b)
theorem sub_wf (a b : Int) : (Lit.int .i64 (subS a b)).wf = true := by
  have h1 := hold_ge (hold a - hold b); have h2 := hold_le (hold a - hold b)
  unfold subS
  exact WalkArith.wf_i64 (by omega)

set_option maxRecDepth 20000 in
theorem hold_c (n : Int) (w : World) : Calls Try.prog 145 #[.int .i64 n] w fun e w' => e = .returned (.int .i64 (hold n)) ∧ w = w' := by
  go_enter Try.func145, Try.ntmps145
  by_cases h1 : n < -1152921504606846976
  · have e1 : decide (n < -1152921504606846976) = true := decide_eq_true h1
    go_wp2
    go_ret
    exact ⟨by unfold hold; rw [if_pos h1]; rfl, rfl⟩
  · have e1 : decide (n < -1152921504606846976) = false := decide_eq_false h1
    by_cases h2 : 1152921504606846976 < n
    · have e2 : decide (1152921504606846976 < n) = true := decide_eq_true h2
      go_wp2
      go_ret
      exact ⟨by unfold hold; rw [if_neg (by omega), if_pos h2]; rfl, rfl⟩
    · have e2 : decide (1152921504606846976 < n) = false := decide_eq_false h2
      go_wp2
      go_ret
      exact ⟨by unfold hold; rw [if_neg (by omega), if_neg (by omega)]; rfl, rfl⟩
set_option maxRecDepth 20000 in
theorem most_c (w : World) : Calls Try.prog 158 #[] w fun e w' => e = .returned (.int .i64 1152921504606846976) ∧ w = w' := by
  go_enter Try.func158, Try.ntmps158
  go_wp2
  go_ret
  exact ⟨rfl, rfl⟩
set_option maxRecDepth 20000 in
theorem refhold_c (n : Int) (w : World) : Calls Try.prog 146 #[.int .i64 n] w fun e w' => e = .returned (.int .i64 (hold n)) ∧ w = w' := by
  go_enter Try.func146, Try.ntmps146
  by_cases h2 : 1152921504606846976 < n
  · have e2 : decide (1152921504606846976 < n) = true := decide_eq_true h2
    go_wp2_with (go_at_call 158; refine (most_c _).mono ?_; rintro e w' ⟨rfl, rfl⟩)
    go_ret
    exact ⟨by unfold hold; rw [if_neg (by omega), if_pos h2]; rfl, rfl⟩
  · have e2 : decide (1152921504606846976 < n) = false := decide_eq_false h2
    by_cases h1 : n < -1152921504606846976
    · have e1 : decide (n < -1152921504606846976) = true := decide_eq_true h1
      go_wp2_with (go_at_call 158; refine (most_c _).mono ?_; rintro e w' ⟨rfl, rfl⟩)
      go_ret
      exact ⟨by unfold hold; rw [if_pos h1]; rfl, rfl⟩
    · have e1 : decide (n < -1152921504606846976) = false := decide_eq_false h1
      go_wp2_with (go_at_call 158; refine (most_c _).mono ?_; rintro e w' ⟨rfl, rfl⟩)
      go_ret
      exact ⟨by unfold hold; rw [if_neg (by omega), if_neg (by omega)]; rfl, rfl⟩
set_option maxRecDepth 20000 in
theorem sub_c (a b : Int) (w : World) : Calls Try.prog 111 #[.int .i64 a, .int .i64 b] w fun e w' => e = .returned (.int .i64 (subS a b)) ∧ w = w' := by
  have h1 := hold_ge a; have h2 := hold_le a; have h3 := hold_ge b; have h4 := hold_le b
  unfold subS
  go_enter Try.func111, Try.ntmps111
  go_wp2_with (go_at_call 145; refine (hold_c _ _).mono ?_; rintro e w' ⟨rfl, rfl⟩)
  go_ret
  exact ⟨rfl, rfl⟩
set_option maxRecDepth 20000 in
theorem refsub_c (a b : Int) (w : World) : Calls Try.prog 113 #[.int .i64 a, .int .i64 b] w fun e w' => e = .returned (.int .i64 (subS a b)) ∧ w = w' := by
  have h1 := hold_ge a; have h2 := hold_le a; have h3 := hold_ge b; have h4 := hold_le b
  unfold subS
  go_enter Try.func113, Try.ntmps113
  go_wp2_with (go_at_call 146; refine (refhold_c _ _).mono ?_; rintro e w' ⟨rfl, rfl⟩)
  go_ret
  exact ⟨rfl, rfl⟩

set_option maxRecDepth 20000 in
set_option maxHeartbeats 1000000 in
theorem sameints_c (A A2 : Option Addr) (c c2 : Nat) (xs : List Int) (hx : xs.length ≤ 1048576) (w : World) (h1 : Sl w w.heap.size 1 A xs.length (I xs)) (h2 : Sl w w.heap.size 1 A2 xs.length (I xs)) :
    Calls Try.prog 32 #[.slice A xs.length c, .slice A2 xs.length c2] w fun e w' => e = .returned (.bool true) ∧ Below w.heap.size w w' := by
  have H1 := Lib.hid h1
  have H2 := Lib.hid h2
  clear h1 h2
  go_enter Try.func32, Try.ntmps32
  go_wp2
  go_loopg [5] xs.length (fun kx s5 wr => ∃ k q : Nat, s5 = .int .i64 k ∧ k ≤ xs.length ∧ xs.length - k ≤ kx ∧ wr = w.drewN q)
  case atStart => exact ⟨0, 0, rfl, by omega, by omega, rfl⟩
  case round =>
    obtain ⟨k, q, rfl, hk, hkx, rfl⟩ := hrel
    by_cases hlt : k < xs.length
    · have hltz : (k : Int) < (xs.length : Int) := by omega
      obtain ⟨a, u, rfl, hab, hu, hc⟩ := H1.out.cell1 (k := k) hlt
      obtain ⟨a2, u2, rfl, hab2, hu2, hc2⟩ := H2.out.cell1 (k := k) hlt
      rw [hu] at hu2
      cases hu2
      unfold I at hu
      simp only [List.getElem?_map] at hu
      obtain ⟨x, hx0, rfl⟩ := Option.map_eq_some_iff.1 hu
      clear hu hx0
      go_wp2_with fail
      go_quiet (fail)
      go_wp2
      go_roundg (xs.length - (k + 1))
      case measure => omega
      case rel => exact ⟨k + 1, _, by go_num, by omega, by omega, by first | rfl | exact (World.drewN_drewN _ _ _)⟩
    · have hltz : ¬ (k : Int) < (xs.length : Int) := by omega
      go_wp2
      go_ret
      exact ⟨rfl, below_drewN (Below.refl _ w) q⟩
end Go.Proofs.Ytdoemgccmjddcaa.Sr
