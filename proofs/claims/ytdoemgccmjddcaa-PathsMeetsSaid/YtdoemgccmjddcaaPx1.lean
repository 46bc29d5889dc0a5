/- The document's example of the ways up. -/
import Derived.Test.YtdoemgccmjddcaaPx0
namespace Go.Proofs.Ytdoemgccmjddcaa.Pa
open Go.RowKit Go.Proofs.Ytdoemgccmjddcaa.Wd Go.Proofs.Ytdoemgccmjddcaa.Tp Go.Proofs.Ytdoemgccmjddcaa.Tr Go.Proofs.Ytdoemgccmjddcaa.Cl Go.Proofs.Ytdoemgccmjddcaa.So Go.Proofs.Ytdoemgccmjddcaa.Fl

/-- three classes, each below the one ahead; the middle one bounded or not -/
def exM (b : Bool) : Cls := ⟨2, 1, 4607182418800017408, 0, 1, 1, 0, 0, 0, b, false⟩
def exT (b : Bool) : List Cls := [exK 1 0, exM b, exK 3 2]
theorem right_exM (b : Bool) : rightS (exM b) = 0 := by
  unfold rightS exM fairS
  simp [units_one]
theorem ext_scan (b : Bool) : scan (exT b) 3 = 0 := by
  have e0 : errAt (exT b) 0 = 0 := by rw [errAt_is (c := exK 1 0) rfl (right_ex 1 0 (by omega) (by omega) (by omega)), if_pos (by cases b <;> decide +kernel)]
  have e1 : errAt (exT b) 1 = 0 := by rw [errAt_is (c := exM b) rfl (right_exM b), if_pos (by cases b <;> decide +kernel)]
  have e2 : errAt (exT b) 2 = 0 := by rw [errAt_is (c := exK 3 2) rfl (right_ex 3 2 (by omega) (by omega) (by omega)), if_pos (by cases b <;> decide +kernel)]
  rw [scan_succ, e2]
  rw [scan_succ, e1]
  rw [scan_succ, e0]
  rfl
theorem ext_check (b : Bool) : checkS (exT b) = 0 := by rw [check_is (by cases b <;> decide) (by cases b <;> decide)]; exact ext_scan b
theorem ext_rootS (b : Bool) : rootS (exT b) = 1 := by cases b <;> decide +kernel
theorem ext_root (b : Bool) : Tp.Root (exT b) (rootS (exT b)) := by
  rw [ext_rootS]
  refine ⟨⟨exK 1 0, by simp [exT], rfl, rfl⟩, fun c hc h0 => ?_, fun c hc h0 => ?_⟩
  · simp only [exT, List.mem_cons, List.not_mem_nil, or_false] at hc
    rcases hc with rfl | rfl | rfl <;> first | rfl | (simp [exK, exM] at h0)
  · simp only [exT, List.mem_cons, List.not_mem_nil, or_false] at hc
    rcases hc with rfl | rfl | rfl <;> simp [exK, exM, exT, ids] at h0 ⊢
theorem ext_desc (b : Bool) : desc (exT b) 64 (rootS (exT b)) = [1, 2, 3] := by rw [ext_rootS]; cases b <;> decide +kernel
theorem ext_level (b : Bool) : level (exT b) 1 = 3 := by cases b <;> decide +kernel
theorem ext_chk (b : Bool) : chk (exT b) = 0 := by
  refine chk_fine (ext_check b) (ext_root b) (fun i hi => ?_) (by rw [ext_rootS, ext_level]; decide)
  rw [ext_desc]
  have : i ∈ [1, 2, 3] := by cases b <;> exact hi
  exact this
theorem ext_tree (b : Bool) : Tp.Tree (exT b) := chk_tree (ext_chk b)
theorem ext_lend3 : lendS (exT false) 3 = [2, 1] := by
  have F : Fit (exT false) := .inr (ext_tree false)
  rw [lend_some F (x := exK 3 2) (by rfl) (by decide +kernel)]
  show (2 : Int) :: lendS (exT false) 2 = _
  rw [lend_some F (x := exM false) (by rfl) (by decide +kernel)]
  show (2 : Int) :: 1 :: lendS (exT false) 1 = _
  rw [lend_none F (x := exK 1 0) (by rfl) (by decide +kernel)]
theorem ext_lend2 : lendS (exT true) 3 = [2] := by
  have F : Fit (exT true) := .inr (ext_tree true)
  rw [lend_some F (x := exK 3 2) (by rfl) (by decide +kernel)]
  show (2 : Int) :: lendS (exT true) 2 = _
  rw [lend_none F (x := exM true) (by rfl) (by decide +kernel)]
theorem exT_share (b : Bool) : ∀ x ∈ exT b, x.share < 18446744073709551616 := fun x hx => by
  simp only [exT, List.mem_cons, List.not_mem_nil, or_false] at hx
  rcases hx with rfl | rfl | rfl <;> cases b <;> decide
end Go.Proofs.Ytdoemgccmjddcaa.Pa
