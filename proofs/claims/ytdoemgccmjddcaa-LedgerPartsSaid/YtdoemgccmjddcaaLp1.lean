/- Ledgers that are not there. -/
import Derived.Test.YtdoemgccmjddcaaLd14
namespace Go.Proofs.Ytdoemgccmjddcaa.Ld
open Go.RowKit Go.Maps Wd Li Sr Sw

set_option maxRecDepth 20000 in
theorem got_nil (a b : Int) (w : World) : Calls Try.prog 62 #[.pointer none, .int .i64 a, .int .i64 b] w fun e w' => (∃ v, e = .returned v) ∧ w = w' := by
  go_enter Try.func62, Try.ntmps62
  go_wp2
  (try simp only [Exit.inBlock, Exit.then])
  refine bodyPost_ret (results_none rfl _ _ _) rfl ?_
  exact ⟨⟨_, rfl⟩, rfl⟩
set_option maxRecDepth 20000 in
theorem sent_nil (a b : Int) (w : World) : Calls Try.prog 63 #[.pointer none, .int .i64 a, .int .i64 b] w fun e w' => (∃ v, e = .returned v) ∧ w = w' := by
  go_enter Try.func63, Try.ntmps63
  go_wp2
  (try simp only [Exit.inBlock, Exit.then])
  refine bodyPost_ret (results_none rfl _ _ _) rfl ?_
  exact ⟨⟨_, rfl⟩, rfl⟩
set_option maxRecDepth 20000 in
theorem lost_nil (a b : Int) (w : World) : Calls Try.prog 64 #[.pointer none, .int .i64 a, .int .i64 b] w fun e w' => (∃ v, e = .returned v) ∧ w = w' := by
  go_enter Try.func64, Try.ntmps64
  go_wp2
  (try simp only [Exit.inBlock, Exit.then])
  refine bodyPost_ret (results_none rfl _ _ _) rfl ?_
  exact ⟨⟨_, rfl⟩, rfl⟩
set_option maxRecDepth 20000 in
theorem reason_nil (a b : Int) (w : World) : Calls Try.prog 56 #[.pointer none, .int .i64 a, .int .i64 b] w fun e w' => e = .returned (.int .i64 0) ∧ w = w' := by
  go_enter Try.func56, Try.ntmps56
  go_wp2
  go_ret
  exact ⟨rfl, rfl⟩
set_option maxRecDepth 20000 in
theorem ids_nil (w : World) : Calls Try.prog 58 #[.pointer none] w fun e w' => e = .returned (.slice none 0 0) ∧ w = w' := by
  go_enter Try.func58, Try.ntmps58
  go_wp2
  go_ret
  exact ⟨rfl, rfl⟩
set_option maxRecDepth 20000 in
theorem of_nil (a : Int) (w : World) : Calls Try.prog 54 #[.pointer none, .int .i64 a] w fun e w' => e = .returned zeroS.agg ∧ Below w.heap.size w w' := by
  unfold zeroS Stat.agg
  go_enter Try.func54, Try.ntmps54
  go_wp2
  (try simp only [Exit.inBlock, Exit.then])
  refine bodyPost_ret (v := .agg #[.int .i64 0, .int .i64 0, .int .i64 0, .int .i64 0, .int .i64 0, .int .i64 0]) (by simp [results, Try.results54, go_sem]) rfl ⟨rfl, ?_⟩
  (repeat' (first | assumption | exact Below.refl _ _ | refine Below.alloc ?_ ?_ _ | refine Below.setCell ?_ ?_ _ | omega | (simp; omega) | simp))
end Go.Proofs.Ytdoemgccmjddcaa.Ld
