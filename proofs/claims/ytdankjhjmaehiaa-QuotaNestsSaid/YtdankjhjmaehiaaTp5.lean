/- The document's example of a hierarchy. -/
import Derived.Test.YtdankjhjmaehiaaClM
import Derived.Test.YtdankjhjmaehiaaTr9
namespace Go.Proofs.Ytdankjhjmaehiaa.Tr
open Go.RowKit Go.Proofs.Ytdankjhjmaehiaa.Wd Go.Proofs.Ytdankjhjmaehiaa.Tp Go.Proofs.Ytdankjhjmaehiaa.Cl Go.Proofs.Ytdankjhjmaehiaa.So Go.Proofs.Ytdankjhjmaehiaa.Fl

def exK (i p : Int) : Cls := ⟨i, p, 4607182418800017408, 0, 1, 1, 0, 0, 0, false, false⟩
theorem units_one : unitsS 4607182418800017408 = (2 ^ 20, 0) := by
  unfold unitsS
  rw [if_neg (by decide +kernel), if_neg (by decide +kernel)]
  have h := mag_one
  unfold one at h
  rw [show 4607182418800017408 % 9223372036854775808 = 4607182418800017408 from rfl, h, Nat.mul_comm]
  unfold rhe
  have hp := U_pos
  rw [Nat.mul_div_cancel _ hp, Nat.mul_mod_left, if_neg (by omega)]
theorem right_ex (i p : Int) (hi : 1 ≤ i ∧ i ≤ 65535) (hp : 0 ≤ p ∧ p ≤ 65535) (hne : p ≠ i) : rightS (exK i p) = 0 := by
  unfold rightS exK fairS
  simp [units_one]
  omega
def exF : List Cls := [exK 1 0, exK 2 1, exK 3 1, exK 4 3]
theorem ex_scan : scan exF 4 = 0 := by
  have e0 : errAt exF 0 = 0 := by rw [errAt_is (c := exK 1 0) rfl (right_ex 1 0 (by omega) (by omega) (by omega)), if_pos (by decide +kernel)]
  have e1 : errAt exF 1 = 0 := by rw [errAt_is (c := exK 2 1) rfl (right_ex 2 1 (by omega) (by omega) (by omega)), if_pos (by decide +kernel)]
  have e2 : errAt exF 2 = 0 := by rw [errAt_is (c := exK 3 1) rfl (right_ex 3 1 (by omega) (by omega) (by omega)), if_pos (by decide +kernel)]
  have e3 : errAt exF 3 = 0 := by rw [errAt_is (c := exK 4 3) rfl (right_ex 4 3 (by omega) (by omega) (by omega)), if_pos (by decide +kernel)]
  rw [scan_succ, e3]
  rw [scan_succ, e2]
  rw [scan_succ, e1]
  rw [scan_succ, e0]
  rfl
theorem ex_check : checkS exF = 0 := by rw [check_is (by decide) (by decide)]; exact ex_scan
theorem ex_rootS : rootS exF = 1 := by decide +kernel
theorem ex_root : Tp.Root exF (rootS exF) := by
  rw [ex_rootS]
  refine ⟨⟨exK 1 0, by simp [exF], rfl, rfl⟩, fun c hc h0 => ?_, fun c hc h0 => ?_⟩
  · simp only [exF, List.mem_cons, List.not_mem_nil, or_false] at hc
    rcases hc with rfl | rfl | rfl | rfl <;> first | rfl | (simp [exK] at h0)
  · simp only [exF, List.mem_cons, List.not_mem_nil, or_false] at hc
    rcases hc with rfl | rfl | rfl | rfl <;> simp [exK, exF, ids] at h0 ⊢
theorem ex_desc : desc exF 64 (rootS exF) = [1, 2, 3, 4] := by rw [ex_rootS]; decide +kernel
theorem ex_level : level exF 1 = 3 := by decide +kernel
theorem ex_leaves : leavesS exF = [2, 4] := by decide +kernel
theorem ex_chk : chk exF = 0 := by
  refine chk_fine ex_check ex_root (fun i hi => ?_) (by rw [ex_rootS, ex_level]; decide)
  rw [ex_desc]
  have : i ∈ [1, 2, 3, 4] := hi
  exact this
theorem ex_tree : Tp.Tree exF := chk_tree ex_chk
theorem ex_levelS : levelS exF 1 = 3 := by unfold levelS; rw [if_pos (by decide +kernel)]; exact ex_level
end Go.Proofs.Ytdankjhjmaehiaa.Tr
