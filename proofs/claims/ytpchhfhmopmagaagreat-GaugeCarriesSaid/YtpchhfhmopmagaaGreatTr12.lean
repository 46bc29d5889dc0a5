/- A tree that is not there. -/
import Derived.Test.YtpchhfhmopmagaaGreatTr11
set_option linter.unusedVariables false
set_option linter.unusedSimpArgs false
namespace Go.Proofs.YtpchhfhmopmagaaGreat.Tr
open Go.RowKit Go.Maps Go.Proofs.YtpchhfhmopmagaaGreat.Wd Go.Proofs.YtpchhfhmopmagaaGreat.Li Go.Proofs.YtpchhfhmopmagaaGreat.Mp Go.Proofs.YtpchhfhmopmagaaGreat.Tp Go.Proofs.YtpchhfhmopmagaaGreat.Cl Go.Proofs.YtpchhfhmopmagaaGreat.So Go.Proofs.YtpchhfhmopmagaaGreat.Sw
attribute [local go_sem] run_store_float

set_option maxRecDepth 20000 in
set_option maxHeartbeats 1000000 in
theorem nclass (i : Int) (w : World) : Calls Tryz.prog 63 #[.pointer none, .int .i64 i] w (RetB (.tuple #[.agg #[.int .i64 0, .int .i64 0, .float .f64 0, .int .i64 0, .int .i64 0, .int .i64 0, .int .i64 0, .int .i64 0, .int .i64 0, .bool false, .bool false], .bool false]) w) := by
  have hb0 := Lib.hid ((Below.refl _ w).alloc (Nat.le_refl _) (.cells #[.int .i64 0, .int .i64 0, .float .f64 0, .int .i64 0, .int .i64 0, .int .i64 0, .int .i64 0, .int .i64 0, .int .i64 0, .bool false, .bool false] 84))
  have HH0 := Lib.hid (heap_alloc_new w (.cells #[.int .i64 0, .int .i64 0, .float .f64 0, .int .i64 0, .int .i64 0, .int .i64 0, .int .i64 0, .int .i64 0, .int .i64 0, .bool false, .bool false] 84))
  go_enter Tryz.func63, Tryz.ntmps63
  go_wp2_with (first | (refine wpList_store_whole (by rfl) 84 _ _ (by rfl) 11 Tryz.sizeOf84 w.heap.size _ _ 84 (by rfl) (by rfl) HH0.out (by rfl) (by rfl) (by simp [Value.oneCell']) ?_; intro w5 hb5 hg5; have r0 := cells_at hb5 0 _ rfl; have r1 := cells_at hb5 1 _ rfl; have r2 := cells_at hb5 2 _ rfl; have r3 := cells_at hb5 3 _ rfl; have r4 := cells_at hb5 4 _ rfl; have r5 := cells_at hb5 5 _ rfl; have r6 := cells_at hb5 6 _ rfl; have r7 := cells_at hb5 7 _ rfl; have r8 := cells_at hb5 8 _ rfl; have r9 := cells_at hb5 9 _ rfl; have r10 := cells_at hb5 10 _ rfl; have HG5 := Lib.hid hg5; clear hb5 hg5))
  (try simp only [Exit.inBlock, Exit.then])
  refine bodyPost_ret (v := .tuple #[.agg #[.int .i64 0, .int .i64 0, .float .f64 0, .int .i64 0, .int .i64 0, .int .i64 0, .int .i64 0, .int .i64 0, .int .i64 0, .bool false, .bool false], .bool false]) (by simp [results, Tryz.results63, go_sem, r0, r1, r2, r3, r4, r5, r6, r7, r8, r9, r10]) rfl ?_
  exact ⟨rfl, hb0.out.grown HG5.out (by simp) (fun q hq => by injection hq; omega)⟩
end Go.Proofs.YtpchhfhmopmagaaGreat.Tr
