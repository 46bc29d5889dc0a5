/- filter.Right. -/
import Derived.Test.YtpchhfhmopmagaaGreatFi4
import Derived.Test.YtpchhfhmopmagaaGreatSrM
import Derived.Shelf.Abstract
import Derived.Laws.EntriesVeiled
set_option linter.unusedVariables false
set_option linter.unusedSimpArgs false
namespace Go.Proofs.YtpchhfhmopmagaaGreat.Fi
open Go.RowKit Go.Shelf Wd

theorem fq_eg (k : Nat) : ∀ args w, (callFunc (fq k) args).run Tryz.prog w = .ok (.enter (fq k) args) w := by
  match k with
  | 0 => exact enters_of Tryz.func246 (by kernel_rfl) rfl
  | 1 => exact enters_of Tryz.func247 (by kernel_rfl) rfl
  | 2 => exact enters_of Tryz.func248 (by kernel_rfl) rfl
  | 3 => exact enters_of Tryz.func250 (by kernel_rfl) rfl
  | 4 => exact enters_of Tryz.func252 (by kernel_rfl) rfl
  | 5 => exact enters_of Tryz.func253 (by kernel_rfl) rfl
  | n + 6 => exact enters_of Tryz.func255 (by kernel_rfl) rfl
theorem qcells_0 (k : Nat) (h : k < 7) : qcells[k * 2]? = some (.int .i64 (qe k)) := by
  match k, h with
  | 0, _ => rfl
  | 1, _ => rfl
  | 2, _ => rfl
  | 3, _ => rfl
  | 4, _ => rfl
  | 5, _ => rfl
  | 6, _ => rfl
theorem qcells_1 (k : Nat) (h : k < 7) : qcells[k * 2 + 1]? = some (.func (.func (fq k)) #[] #[]) := by
  match k, h with
  | 0, _ => rfl
  | 1, _ => rfl
  | 2, _ => rfl
  | 3, _ => rfl
  | 4, _ => rfl
  | 5, _ => rfl
  | 6, _ => rfl
theorem right_at (f : F) (k : Nat) (h7 : k < 7) (h : ∀ i, i < k → qs f i = true) (hk : qs f k = false) : rightF f = qe k := by
  unfold rightF
  match k, h7 with
  | 0, _ => simp [hk]; rfl
  | 1, _ => simp [h 0 (by omega), hk]; rfl
  | 2, _ => simp [h 0 (by omega), h 1 (by omega), hk]; rfl
  | 3, _ => simp [h 0 (by omega), h 1 (by omega), h 2 (by omega), hk]; rfl
  | 4, _ => simp [h 0 (by omega), h 1 (by omega), h 2 (by omega), h 3 (by omega), hk]; rfl
  | 5, _ => simp [h 0 (by omega), h 1 (by omega), h 2 (by omega), h 3 (by omega), h 4 (by omega), hk]; rfl
  | 6, _ => simp [h 0 (by omega), h 1 (by omega), h 2 (by omega), h 3 (by omega), h 4 (by omega), h 5 (by omega), hk]; rfl
theorem right_all (f : F) (h : ∀ i, i < 7 → qs f i = true) : rightF f = 0 := by
  unfold rightF
  simp [h 0 (by omega), h 1 (by omega), h 2 (by omega), h 3 (by omega), h 4 (by omega), h 5 (by omega), h 6 (by omega)]
set_option maxRecDepth 20000 in
set_option maxHeartbeats 2000000 in
theorem rightF_c (f : F) (w : World) : Calls Tryz.prog 133 #[f.agg] w fun e w' => e = .returned (.int .i64 (rightF f)) ∧ Below w.heap.size w w' := by
  have HB := Lib.hid (new_f w f)
  have HR0 := Lib.hid (row_new w 98 f.cells)
  have HQ0 := Lib.hid (row_new (w.alloc (.cells f.cells.toArray 98)) 255 qcells)
  have HQB := Lib.hid ((new_f w f).alloc (Nat.le_trans (Nat.le_refl _) (new_f w f).size) (.cells qcells.toArray 255))
  unfold F.cells at HQ0 HR0
  unfold F.agg
  go_enter Tryz.func133, Tryz.ntmps133
  go_wp2_with (go_at_call 204; (with_reducible refine (questions_c _).mono ?_); rintro e w1 ⟨rfl, hw1⟩; have HW1 := Lib.hid hw1; clear hw1)
  have HRa : Hid (Row w1 w.heap.size 98 f.cells) := Lib.hid (by rw [HW1.out]; exact HR0.out.alloc _)
  have HQa : Hid (Row w1 (w.heap.size + 1) 255 qcells) := Lib.hid (by rw [HW1.out]; have := HQ0.out; simpa using this)
  have HBa : Hid (Below w.heap.size w w1) := Lib.hid (by rw [HW1.out]; exact HQB.out)
  clear HR0 HQ0 HB HQB HW1
  go_loopg [7] 7 (fun kx s7 wr => ∃ k : Nat, s7 = .int .i64 k ∧ k ≤ 7 ∧ 7 - k ≤ kx ∧ Hid (∀ i, i < k → qs f i = true) ∧ Hid (Below w1.heap.size w1 wr))
  case atStart => exact ⟨0, rfl, by omega, by omega, Lib.hid (fun i h => absurd h (by omega)), Lib.hid (Below.refl _ _)⟩
  case round =>
    obtain ⟨k, rfl, hk, hkx, HK, HW⟩ := hrel
    have hwz := HW.out.size
    by_cases hlt : k < 7
    · have hltz : (k : Int) < 7 := by omega
      have HRb := Lib.hid (HRa.out.below HW.out HRa.out.lt)
      have HQb := Lib.hid (HQa.out.below HW.out HQa.out.lt)
      have c0 : wr.cell? ⟨w.heap.size + 1, k * 2, none⟩ = some (.int .i64 (qe k)) := (HQb.out.cell (k * 2)).trans (qcells_0 k hlt)
      have c1 : wr.cell? ⟨w.heap.size + 1, k * 2 + 1, none⟩ = some (.func (.func (fq k)) #[] #[]) := (HQb.out.cell (k * 2 + 1)).trans (qcells_1 k hlt)
      go_upto_region 4 with fail
      have hRu := HRb.out.alloc (.cells #[.int .i64 (qe k), .func (.func (fq k)) #[] #[]] 255)
      have hRn := row_new wr 255 [.int .i64 (qe k), .func (.func (fq k)) #[] #[]]
      have hBu := HW.out.alloc hwz (.cells #[.int .i64 (qe k), .func (.func (fq k)) #[] #[]] 255)
      have hzu : (wr.alloc (.cells #[.int .i64 (qe k), .func (.func (fq k)) #[] #[]] 255)).heap.size = wr.heap.size + 1 := by simp
      generalize hu : World.alloc wr _ = u at *
      have HRu := Lib.hid hRu; have HRn := Lib.hid hRn; have HBu := Lib.hid hBu; have HZ := Lib.hid hzu
      clear hRu hRn hBu hu c0 c1
      have n0 : u.cell? ⟨wr.heap.size, 0, none⟩ = some (.int .i64 (qe k)) := HRn.out.cell 0
      have n1 : u.cell? ⟨wr.heap.size, 1, none⟩ = some (.func (.func (fq k)) #[] #[]) := HRn.out.cell 1
      have x0 : u.cell? ⟨w.heap.size, 0, none⟩ = some (.int .i64 f.id) := HRu.out.cell 0
      have x1 : u.cell? ⟨w.heap.size, 1, none⟩ = some (.int .i64 f.prio) := HRu.out.cell 1
      have x2 : u.cell? ⟨w.heap.size, 2, none⟩ = some (.int .i64 f.ver) := HRu.out.cell 2
      have x3 : u.cell? ⟨w.heap.size, 3, none⟩ = some (.int .u64 f.sh) := HRu.out.cell 3
      have x4 : u.cell? ⟨w.heap.size, 4, none⟩ = some (.int .u64 f.sl) := HRu.out.cell 4
      have x5 : u.cell? ⟨w.heap.size, 5, none⟩ = some (.int .u64 f.dh) := HRu.out.cell 5
      have x6 : u.cell? ⟨w.heap.size, 6, none⟩ = some (.int .u64 f.dl) := HRu.out.cell 6
      have x7 : u.cell? ⟨w.heap.size, 7, none⟩ = some (.int .i64 f.sn) := HRu.out.cell 7
      have x8 : u.cell? ⟨w.heap.size, 8, none⟩ = some (.int .i64 f.dn) := HRu.out.cell 8
      have x9 : u.cell? ⟨w.heap.size, 9, none⟩ = some (.int .i64 f.proto) := HRu.out.cell 9
      have x10 : u.cell? ⟨w.heap.size, 10, none⟩ = some (.int .i64 f.s0) := HRu.out.cell 10
      have x11 : u.cell? ⟨w.heap.size, 11, none⟩ = some (.int .i64 f.s1) := HRu.out.cell 11
      have x12 : u.cell? ⟨w.heap.size, 12, none⟩ = some (.int .i64 f.d0) := HRu.out.cell 12
      have x13 : u.cell? ⟨w.heap.size, 13, none⟩ = some (.int .i64 f.d1) := HRu.out.cell 13
      have x14 : u.cell? ⟨w.heap.size, 14, none⟩ = some (.int .i64 f.leaf) := HRu.out.cell 14
      have HC := Lib.hid (fq_c f k u)
      have eg := fq_eg k
      have HKK := HK.out
      unfold RetB at HC
      cases hq : qs f k with
      | true =>
        rw [hq] at HC
        have HQ := Lib.hid hq
        clear hq HKK
        go_wp2_with (go_at_fn (fq k); refine (HC.out).mono ?_; rintro e w2 ⟨rfl, hb2⟩; have HB2 := Lib.hid (HBu.out.trans (hb2.mono HBu.out.size)); clear hb2)
        go_roundg (7 - (k + 1))
        case measure => omega
        case rel => exact ⟨k + 1, by go_num, by omega, by omega, Lib.hid (fun i hi => by rcases Nat.lt_succ_iff_lt_or_eq.1 hi with h | h; exact HK.out i h; subst h; exact HQ.out), HB2⟩
      | false =>
        rw [hq] at HC
        have HQ := Lib.hid (right_at f k hlt HKK hq)
        clear hq HKK
        go_wp2_with (go_at_fn (fq k); refine (HC.out).mono ?_; rintro e w2 ⟨rfl, hb2⟩; have HB2 := Lib.hid (HBu.out.trans (hb2.mono HBu.out.size)); have m0 : w2.cell? ⟨wr.heap.size, 0, none⟩ = some (.int .i64 (qe k)) := (hb2.cell (p := ⟨wr.heap.size, 0, none⟩) (show wr.heap.size < u.heap.size by omega)).trans n0; clear hb2)
        go_ret
        exact ⟨by rw [HQ.out]; rfl, HBa.out.trans (HB2.out.mono HBa.out.size)⟩
    · have hltz : ¬ (k : Int) < 7 := by omega
      obtain rfl : k = 7 := by omega
      have HQ := Lib.hid (right_all f HK.out)
      go_wp2
      go_ret
      exact ⟨by rw [HQ.out]; rfl, HBa.out.trans (HW.out.mono HBa.out.size)⟩
end Go.Proofs.YtpchhfhmopmagaaGreat.Fi
