/- The law's example of ways up. -/
import Derived.Test.YtdoemgccmjddcaaPx1
namespace Go.Proofs.Ytdoemgccmjddcaa.Pa
open Go.RowKit Go.Maps Go.Proofs.Ytdoemgccmjddcaa.Wd Go.Proofs.Ytdoemgccmjddcaa.Li Go.Proofs.Ytdoemgccmjddcaa.Mp Go.Proofs.Ytdoemgccmjddcaa.Tp Go.Proofs.Ytdoemgccmjddcaa.Tr Go.Proofs.Ytdoemgccmjddcaa.Cl Go.Proofs.Ytdoemgccmjddcaa.So Go.Proofs.Ytdoemgccmjddcaa.Sw
attribute [local go_sem] run_store_float

def exQ : Nat → List Cls
  | 0 => [exK 1 0, exK 1 0, exK 1 0]
  | 1 => [exK 1 0, exK 1 0, exK 1 0]
  | 2 => [exK 1 0, exK 2 1, exK 1 0]
  | _ => [exK 1 0, exK 2 1, exK 3 2]
def exW (k : Nat) : List Value := (exQ k).flatMap Cls.cells
theorem lit_two (w : World) (A : Option Addr) (c : Nat) (h : Sl w w.heap.size 1 A [(2 : Int), 1].length (St.I [2, 1])) :
    Calls Try.prog 32 #[.slice A 2 c, .slice (some ⟨w.heap.size, 0, none⟩) 2 2] (w.alloc (.cells #[.int .i64 2, .int .i64 1] 3)) fun e w' => e = .returned (.bool true) ∧ Below (w.alloc (.cells #[.int .i64 2, .int .i64 1] 3)).heap.size (w.alloc (.cells #[.int .i64 2, .int .i64 1] 3)) w' :=
  same_two _ A _ c 2 [2, 1] 2 rfl (by omega) ((Sl.alloc h (Nat.le_refl _) _).more (by simp)) ((row_new w 3 (St.I [2, 1])).sl rfl)
theorem lit_one (w : World) (A : Option Addr) (c : Nat) (h : Sl w w.heap.size 1 A [(2 : Int)].length (St.I [2])) :
    Calls Try.prog 32 #[.slice A 1 c, .slice (some ⟨w.heap.size, 0, none⟩) 1 1] (w.alloc (.cells #[.int .i64 2] 3)) fun e w' => e = .returned (.bool true) ∧ Below (w.alloc (.cells #[.int .i64 2] 3)).heap.size (w.alloc (.cells #[.int .i64 2] 3)) w' :=
  same_two _ A _ c 1 [2] 1 rfl (by omega) ((Sl.alloc h (Nat.le_refl _) _).more (by simp)) ((row_new w 3 (St.I [2])).sl rfl)
set_option maxRecDepth 20000 in
set_option maxHeartbeats 1000000 in
theorem lives19 (w : World) : Calls Try.prog 83 #[] w fun e w' => e = .returned (.bool true) ∧ Below w.heap.size w w' := by
  have hrow0 := Lib.hid (row_new (w.alloc (.cells (exK 1 0).cells.toArray 64)) 64 (exW 0))
  have hb0 := Lib.hid (((Below.refl _ w).alloc (Nat.le_refl _) (.cells (exK 1 0).cells.toArray 64)).alloc (by simp) (.cells (exW 0).toArray 64))
  go_enter Try.func83, Try.ntmps83
  go_wp2_with fail
  have hsz : (w.alloc (.cells (exK 1 0).cells.toArray 64)).heap.size = w.heap.size + 1 := by simp
  rw [hsz] at hrow0
  clear hsz
  generalize hW : World.alloc (World.alloc w _) _ = W
  have HR1 : Hid (Row W (w.heap.size + 1) 64 (exW 0)) := Lib.hid (by rw [← hW]; exact hrow0.out)
  have HB1 : Hid (Below w.heap.size w W) := Lib.hid (by rw [← hW]; exact hb0.out)
  clear hrow0 hb0 hW
  go_loopg [15] 3 (fun kx s15 wr => ∃ k : Nat, s15 = exI k ∧ k ≤ 3 ∧ 3 - k ≤ kx ∧ Hid (Row wr (w.heap.size + 1) 64 (exW k)) ∧ Hid (Below w.heap.size w wr))
  case atStart => exact ⟨0, rfl, by omega, by omega, HR1, HB1⟩
  case round =>
    obtain ⟨k, rfl, hk, hkx, HR, HW⟩ := hrel
    clear HR1 HB1
    obtain rfl | rfl | rfl | rfl : k = 0 ∨ k = 1 ∨ k = 2 ∨ k = 3 := by omega
    · unfold exI
      have c0 : wr.cell? ⟨w.heap.size + 1, 0, none⟩ = some (.int .i64 1) := HR.out.cell 0
      have c1 : wr.cell? ⟨w.heap.size + 1, 1, none⟩ = some (.int .i64 0) := HR.out.cell 1
      have f0 := HR.out.frozen 0
      have f1 := HR.out.frozen 1
      go_wp2
      go_roundg 2
      case measure => omega
      case rel => exact ⟨1, rfl, by omega, by omega, Lib.hid ((HR.out.set 0 (.int .i64 1)).set 1 (.int .i64 0)), Lib.hid ((HW.out.setCell (by simp) _).setCell (by simp) _)⟩
    · unfold exI
      have c0 : wr.cell? ⟨w.heap.size + 1, 11, none⟩ = some (.int .i64 1) := HR.out.cell 11
      have c1 : wr.cell? ⟨w.heap.size + 1, 12, none⟩ = some (.int .i64 0) := HR.out.cell 12
      have f0 := HR.out.frozen 11
      have f1 := HR.out.frozen 12
      go_wp2
      go_roundg 1
      case measure => omega
      case rel => exact ⟨2, rfl, by omega, by omega, Lib.hid ((HR.out.set 11 (.int .i64 2)).set 12 (.int .i64 1)), Lib.hid ((HW.out.setCell (by simp) _).setCell (by simp) _)⟩
    · unfold exI
      have c0 : wr.cell? ⟨w.heap.size + 1, 22, none⟩ = some (.int .i64 1) := HR.out.cell 22
      have c1 : wr.cell? ⟨w.heap.size + 1, 23, none⟩ = some (.int .i64 0) := HR.out.cell 23
      have f0 := HR.out.frozen 22
      have f1 := HR.out.frozen 23
      go_wp2
      go_roundg 0
      case measure => omega
      case rel => exact ⟨3, rfl, by omega, by omega, Lib.hid ((HR.out.set 22 (.int .i64 3)).set 23 (.int .i64 2)), Lib.hid ((HW.out.setCell (by simp) _).setCell (by simp) _)⟩
    · unfold exI
      have hwz := HW.out.size
      have HR3 : Hid (Row wr (w.heap.size + 1) 64 ((exT false).flatMap Cls.cells)) := HR
      have hlt := HR3.out.lt
      have hcomp := compile_c (some ⟨w.heap.size + 1, 0, none⟩) 3 3 (exT false) (exT_share false) (by decide) (by decide) wr (row_holds HR3.out rfl _ hlt)
      have HC := Lib.hid hcomp
      clear hcomp HR
      go_upto_region 10 with (go_at_call 68; (with_reducible refine (HC.out).mono ?_); rintro e w4 (⟨hn, _⟩ | ⟨_, T, rfl, hT, hTw, hb4⟩); exact absurd (ext_chk false) hn; have HT := Lib.hid hT; have HB4 := Lib.hid hb4; clear hT hb4)
      have hw4 := HB4.out.size
      have hr4 : Row w4 (w.heap.size + 1) 64 ((exT false).flatMap Cls.cells) := HR3.out.below HB4.out hlt
      have c20 : w4.cell? ⟨w.heap.size + 1, 20, none⟩ = some (.bool false) := hr4.cell 20
      have f20 := hr4.frozen 20
      have hr5 : Row (w4.setCell ⟨w.heap.size + 1, 20, none⟩ (.bool true)) (w.heap.size + 1) 64 ((exT true).flatMap Cls.cells) := hr4.set 20 (.bool true)
      have hT5 : TreeV (w4.setCell ⟨w.heap.size + 1, 20, none⟩ (.bool true)) w4.heap.size (.pointer (some ⟨T, 0, none⟩)) (exT false) := .inr ⟨T, rfl, tree_set HT.out hr4 20 rfl _, ext_tree false⟩
      have hb5 : Below w.heap.size w (w4.setCell ⟨w.heap.size + 1, 20, none⟩ (.bool true)) := (HW.out.trans (HB4.out.mono hwz)).setCell (by simp) _
      have hz5 : (w4.setCell ⟨w.heap.size + 1, 20, none⟩ (.bool true)).heap.size = w4.heap.size := by simp
      have HR4 := Lib.hid hr4
      clear hr4
      go_upto_region 11 with fail
      generalize World.setCell w4 _ _ = w5 at *
      have HT5 := Lib.hid hT5; have HB5 := Lib.hid hb5
      have hcomp := compile_c (some ⟨w.heap.size + 1, 0, none⟩) 3 3 (exT true) (exT_share true) (by decide) (by decide) w5 (row_holds hr5 rfl _ hr5.lt)
      have HC5 := Lib.hid hcomp
      have hw5 := hb5.size
      clear hcomp hr5 hT5 hb5 c20 f20
      go_upto_region 12 with (go_at_call 68; (with_reducible refine (HC5.out).mono ?_); rintro e w6 (⟨hn, _⟩ | ⟨_, T6, rfl, hT6, hTw6, hb6⟩); exact absurd (ext_chk true) hn; have HT6 := Lib.hid hT6; have HB6 := Lib.hid hb6; clear hT6 hb6)
      have hw6 := HB6.out.size
      have HV5 : Hid (∀ u, Below w6.heap.size w6 u → TreeV u u.heap.size (.pointer (some ⟨T, 0, none⟩)) (exT false)) := Lib.hid (fun u hu => (HT5.out.below ((HB6.out.mono (by omega)).trans (hu.mono (by omega)))).up (by have := hu.size; omega))
      have HV6 : Hid (∀ u, Below w6.heap.size w6 u → TreeV u u.heap.size (.pointer (some ⟨T6, 0, none⟩)) (exT true)) := Lib.hid (fun u hu => .inr ⟨T6, rfl, (HT6.out.below hu).up hu.size, ext_tree true⟩)
      have hl1 := Lib.hid (lenders_c (exT false) (some ⟨T, 0, none⟩) 3 (by decide) w6 (HV5.out w6 (Below.refl _ _)))
      have hl2 := Lib.hid (fun u hu => lenders_c (exT true) (some ⟨T6, 0, none⟩) 3 (by decide) u (HV6.out u hu))
      rw [ext_lend3] at hl1
      rw [ext_lend2] at hl2
      unfold ListOk at hl1 hl2
      go_wp2_with (first
        | (go_at_call 87; (with_reducible refine (hl1.out).mono ?_); rintro e w7 ⟨A7, c7, rfl, hs7, hb7⟩; have HS7 := Lib.hid hs7; have HB7 := Lib.hid hb7; clear hs7 hb7)
        | (go_at_call 32; (with_reducible refine (lit_two w7 A7 c7 HS7.out).mono ?_); rintro e w8 ⟨rfl, hb8⟩; have HB8 := Lib.hid ((HB7.out.alloc HB7.out.size _).trans (hb8.mono (by have := HB7.out.size; simp; omega))); clear hb8)
        | (go_at_call 87; (with_reducible refine (hl2.out _ HB8.out).mono ?_); rintro e w9 ⟨A9, c9, rfl, hs9, hb9⟩; have HS9 := Lib.hid hs9; have HB9 := Lib.hid (HB8.out.trans (hb9.mono HB8.out.size)); clear hs9 hb9)
        | (go_at_call 32; (with_reducible refine (lit_one w9 A9 c9 HS9.out).mono ?_); rintro e w10 ⟨rfl, hb10⟩; have HB10 := Lib.hid ((HB9.out.alloc HB9.out.size _).trans (hb10.mono (by have := HB9.out.size; simp; omega))); clear hb10))
      go_ret
      exact ⟨rfl, (HB5.out.trans (HB6.out.mono hw5)).trans (HB10.out.mono (by omega))⟩
end Go.Proofs.Ytdoemgccmjddcaa.Pa
