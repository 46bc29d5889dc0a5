/- Total, Keep, Copy of a ledger that is not there; Copy. -/
import Derived.Test.YtdoemgccmjddcaaLp4
namespace Go.Proofs.Ytdoemgccmjddcaa.Ld
open Go.RowKit Go.Maps Wd Li Sr Sw

set_option maxRecDepth 20000 in
theorem keep_nil (s : Value) (w : World) : Calls Try.prog 65 #[.pointer none, s] w fun e w' => e = .returned (.pointer none) ∧ w = w' := by
  go_enter Try.func65, Try.ntmps65
  go_wp2
  go_ret
  exact ⟨rfl, rfl⟩
set_option maxRecDepth 20000 in
theorem copy_nil (w : World) : Calls Try.prog 66 #[.pointer none] w fun e w' => e = .returned (.pointer none) ∧ w = w' := by
  go_enter Try.func66, Try.ntmps66
  go_wp2_with (first
    | (go_at_call 58; refine (ids_nil _).mono ?_; rintro e w' ⟨rfl, rfl⟩)
    | (go_at_call 65; refine (keep_nil _ _).mono ?_; rintro e w' ⟨rfl, rfl⟩))
  go_ret
  exact ⟨rfl, rfl⟩
set_option maxRecDepth 20000 in
set_option maxHeartbeats 1000000 in
theorem copy_c (L M n : Nat) (f : Int → Option Book) (hn : n ≤ 1048576) (hfin : ∀ zs, Ids f zs → zs.length ≤ 1048576) (w : World) (hl : Led w L M n f) :
    Calls Try.prog 66 #[.pointer (some ⟨L, 0, none⟩)] w (KeepOk f n w) := by
  have hltL := lt_of_get hl.cell
  have hltM := hl.lt
  have HI := Lib.hid (ids_c L M n f hn w hl)
  have HL := Lib.hid hl
  have HF := Lib.hid hfin
  clear hl hfin
  go_enter Try.func66, Try.ntmps66
  go_wp2_with (first
    | (go_at_call 58; refine (HI.out).mono ?_; rintro e w1 ⟨zs, B, d, rfl, hi, hown, hb⟩; have HS := Lib.hid (Sl.of_own hown); have HB := Lib.hid hb; have HZ := Lib.hid hi; clear hi hown hb)
    | (go_at_call 65; refine (keep_c L M n f hn B d zs (HF.out zs HZ.out) w1 (HL.out.below HB.out hltL hltM) HS.out).mono ?_; rintro e w2 ⟨L', M', rfl, hl2, h1, h2, hb2⟩; have HL2 := Lib.hid hl2; have HB2 := Lib.hid hb2; clear hl2 hb2))
  go_ret
  exact ⟨L', M', rfl, by have := HL2.out; rwa [keep_all HZ.out] at this, Nat.le_trans HB.out.size h1, Nat.le_trans HB.out.size h2, HB.out.trans (HB2.out.mono HB.out.size)⟩
set_option maxRecDepth 20000 in
set_option maxHeartbeats 1000000 in
theorem total_nil (w : World) : Calls Try.prog 60 #[.pointer none] w fun e w' => e = .returned zeroS.agg ∧ Below w.heap.size w w' := by
  have h1 := heap_alloc_new w (.cells #[.int .i64 0, .int .i64 0, .int .i64 0, .int .i64 0, .int .i64 0, .int .i64 0] 82)
  have h2 := heap_alloc_new (w.alloc (.cells #[.int .i64 0, .int .i64 0, .int .i64 0, .int .i64 0, .int .i64 0, .int .i64 0] 82)) (.cells #[.int .i64 0, .int .i64 0, .int .i64 0, .int .i64 0, .int .i64 0, .int .i64 0] 82)
  have hG := Lib.hid h2
  have hZ : Hid (((w.alloc (.cells #[.int .i64 0, .int .i64 0, .int .i64 0, .int .i64 0, .int .i64 0, .int .i64 0] 82)).alloc (.cells #[.int .i64 0, .int .i64 0, .int .i64 0, .int .i64 0, .int .i64 0, .int .i64 0] 82)).heap[w.heap.size]? = some (.cells #[.int .i64 0, .int .i64 0, .int .i64 0, .int .i64 0, .int .i64 0, .int .i64 0] 82 (0, 0))) := Lib.hid ((Below.heap_alloc _ _ _ (by simp)).trans h1)
  have hb0 := Lib.hid (((Below.refl _ w).alloc (Nat.le_refl _) (.cells #[.int .i64 0, .int .i64 0, .int .i64 0, .int .i64 0, .int .i64 0, .int .i64 0] 82)).alloc (by simp) (.cells #[.int .i64 0, .int .i64 0, .int .i64 0, .int .i64 0, .int .i64 0, .int .i64 0] 82))
  clear h1 h2
  unfold zeroS Stat.agg
  go_enter Try.func60, Try.ntmps60
  go_wp2_with (go_at_call 58; refine (ids_nil _).mono ?_; rintro e w' ⟨rfl, rfl⟩)
  generalize hW : World.alloc (World.alloc w _) _ = W at *
  go_loopg [10] 0 (fun kx s10 wr => s10 = .int .i64 0 ∧ wr = W)
  case atStart => exact ⟨rfl, rfl⟩
  case round =>
    obtain ⟨rfl, rfl⟩ := hrel
    have hGc : wr.heap[w.heap.size + 1]? = some (.cells #[.int .i64 0, .int .i64 0, .int .i64 0, .int .i64 0, .int .i64 0, .int .i64 0] 82 (0, 0)) := by have := hG.out; simpa using this
    clear hW
    have c0 := cells_of hGc 0 _ rfl; have c1 := cells_of hGc 1 _ rfl; have c2 := cells_of hGc 2 _ rfl; have c3 := cells_of hGc 3 _ rfl; have c4 := cells_of hGc 4 _ rfl; have c5 := cells_of hGc 5 _ rfl
    clear hGc
    go_wp2_with (first | (refine wpList_store_whole (by rfl) 82 _ _ (by rfl) 6 Try.sizeOf82 w.heap.size _ _ 82 (by rfl) (by rfl) hZ.out (by rfl) (by rfl) (by simp [Value.oneCell']) ?_; intro w5 hb5 hg5; have r0 := cells_of hb5 0 _ rfl; have r1 := cells_of hb5 1 _ rfl; have r2 := cells_of hb5 2 _ rfl; have r3 := cells_of hb5 3 _ rfl; have r4 := cells_of hb5 4 _ rfl; have r5 := cells_of hb5 5 _ rfl; have HB5 := Lib.hid (hb0.out.grown hg5 hb0.out.size (fun k hk => by cases hk; exact Nat.le_refl _)); clear hb5 hg5))
    (try simp only [Exit.inBlock, Exit.then])
    refine bodyPost_ret (v := .agg #[.int .i64 0, .int .i64 0, .int .i64 0, .int .i64 0, .int .i64 0, .int .i64 0]) (by simp [results, Try.results60, go_sem, r0, r1, r2, r3, r4, r5]) rfl ?_
    exact ⟨rfl, HB5.out⟩
end Go.Proofs.Ytdoemgccmjddcaa.Ld
