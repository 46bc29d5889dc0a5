/- The law's example. -/
import Derived.Test.YtdoemgccmjddcaaTp5
namespace Go.Proofs.Ytdoemgccmjddcaa.Tr
open Go.RowKit Go.Maps Go.Proofs.Ytdoemgccmjddcaa.Wd Go.Proofs.Ytdoemgccmjddcaa.Li Go.Proofs.Ytdoemgccmjddcaa.Mp Go.Proofs.Ytdoemgccmjddcaa.Tp Go.Proofs.Ytdoemgccmjddcaa.Cl Go.Proofs.Ytdoemgccmjddcaa.So Go.Proofs.Ytdoemgccmjddcaa.Sw
attribute [local go_sem] run_store_float

def exL : Nat → List Cls
  | 0 => [exK 1 0, exK 1 0, exK 1 0, exK 1 0]
  | 1 => [exK 1 0, exK 1 0, exK 1 0, exK 1 0]
  | 2 => [exK 1 0, exK 2 0, exK 1 0, exK 1 0]
  | 3 => [exK 1 0, exK 2 0, exK 3 0, exK 1 0]
  | _ => [exK 1 0, exK 2 0, exK 3 0, exK 4 2]
def exR (k : Nat) : List Value := (exL k).flatMap Cls.cells
def exI : Nat → Value
  | 0 => .int .i64 0
  | 1 => .int .i64 1
  | 2 => .int .i64 2
  | 3 => .int .i64 3
  | _ => .int .i64 4
theorem row_holds {w : World} {g : Nat} {l : List Cls} {n c : Nat} (h : Row w g 64 (l.flatMap Cls.cells)) (hn : n = l.length) (N : Nat) (hg : g < N) : Holds N w (.slice (some ⟨g, 0, none⟩) n c) l := by
  subst hn
  refine .inr ⟨g, 0, c, rfl, hg, fun j x hx i v hv => ?_⟩
  rw [h.cell, Nat.zero_add]
  exact flat_at cls_len l j x i v hx hv
theorem same_two (w : World) (A A2 : Option Addr) (c c2 : Nat) (xs : List Int) (n : Nat) (hn : xs.length = n) (hx : n ≤ 1048576) (h1 : Sl w w.heap.size 1 A n (St.I xs)) (h2 : Sl w w.heap.size 1 A2 n (St.I xs)) :
    Calls Try.prog 32 #[.slice A n c, .slice A2 n c2] w fun e w' => e = .returned (.bool true) ∧ Below w.heap.size w w' := by
  subst hn
  exact Sr.sameints_c A A2 c c2 xs hx w h1 h2

set_option maxRecDepth 20000 in
set_option maxHeartbeats 4000000 in
theorem lives18 (w : World) : Calls Try.prog 67 #[] w fun e w' => e = .returned (.bool true) ∧ Below w.heap.size w w' := by
  have hrow0 := Lib.hid (row_new (w.alloc (.cells (exK 1 0).cells.toArray 64)) 64 (exR 0))
  have hb0 := Lib.hid (((Below.refl _ w).alloc (Nat.le_refl _) (.cells (exK 1 0).cells.toArray 64)).alloc (by simp) (.cells (exR 0).toArray 64))
  go_enter Try.func67, Try.ntmps67
  go_wp2_with fail
  have hsz : (w.alloc (.cells (exK 1 0).cells.toArray 64)).heap.size = w.heap.size + 1 := by simp
  rw [hsz] at hrow0
  clear hsz
  generalize hW : World.alloc (World.alloc w _) _ = W
  have HR1 : Hid (Row W (w.heap.size + 1) 64 (exR 0)) := Lib.hid (by rw [← hW]; exact hrow0.out)
  have HB1 : Hid (Below w.heap.size w W) := Lib.hid (by rw [← hW]; exact hb0.out)
  clear hrow0 hb0 hW
  go_loopg [14] 4 (fun kx s14 wr => ∃ k : Nat, s14 = exI k ∧ k ≤ 4 ∧ 4 - k ≤ kx ∧ Hid (Row wr (w.heap.size + 1) 64 (exR k)) ∧ Hid (Below w.heap.size w wr))
  case atStart => exact ⟨0, rfl, by omega, by omega, HR1, HB1⟩
  case round =>
    obtain ⟨k, rfl, hk, hkx, HR, HW⟩ := hrel
    clear HR1 HB1
    obtain rfl | rfl | rfl | rfl | rfl : k = 0 ∨ k = 1 ∨ k = 2 ∨ k = 3 ∨ k = 4 := by omega
    · unfold exI
      have c0 : wr.cell? ⟨w.heap.size + 1, 0, none⟩ = some (.int .i64 1) := HR.out.cell 0
      have c1 : wr.cell? ⟨w.heap.size + 1, 1, none⟩ = some (.int .i64 0) := HR.out.cell 1
      have f0 := HR.out.frozen 0
      have f1 := HR.out.frozen 1
      go_wp2
      go_roundg 3
      case measure => omega
      case rel => exact ⟨1, rfl, by omega, by omega, Lib.hid ((HR.out.set 0 (.int .i64 1)).set 1 (.int .i64 0)), Lib.hid ((HW.out.setCell (by simp) _).setCell (by simp) _)⟩
    · unfold exI
      have c0 : wr.cell? ⟨w.heap.size + 1, 11, none⟩ = some (.int .i64 1) := HR.out.cell 11
      have c1 : wr.cell? ⟨w.heap.size + 1, 12, none⟩ = some (.int .i64 0) := HR.out.cell 12
      have f0 := HR.out.frozen 11
      have f1 := HR.out.frozen 12
      go_wp2
      go_roundg 2
      case measure => omega
      case rel => exact ⟨2, rfl, by omega, by omega, Lib.hid ((HR.out.set 11 (.int .i64 2)).set 12 (.int .i64 0)), Lib.hid ((HW.out.setCell (by simp) _).setCell (by simp) _)⟩
    · unfold exI
      have c0 : wr.cell? ⟨w.heap.size + 1, 22, none⟩ = some (.int .i64 1) := HR.out.cell 22
      have c1 : wr.cell? ⟨w.heap.size + 1, 23, none⟩ = some (.int .i64 0) := HR.out.cell 23
      have f0 := HR.out.frozen 22
      have f1 := HR.out.frozen 23
      go_wp2
      go_roundg 1
      case measure => omega
      case rel => exact ⟨3, rfl, by omega, by omega, Lib.hid ((HR.out.set 22 (.int .i64 3)).set 23 (.int .i64 0)), Lib.hid ((HW.out.setCell (by simp) _).setCell (by simp) _)⟩
    · unfold exI
      have c0 : wr.cell? ⟨w.heap.size + 1, 33, none⟩ = some (.int .i64 1) := HR.out.cell 33
      have c1 : wr.cell? ⟨w.heap.size + 1, 34, none⟩ = some (.int .i64 0) := HR.out.cell 34
      have f0 := HR.out.frozen 33
      have f1 := HR.out.frozen 34
      go_wp2
      go_roundg 0
      case measure => omega
      case rel => exact ⟨4, rfl, by omega, by omega, Lib.hid ((HR.out.set 33 (.int .i64 4)).set 34 (.int .i64 2)), Lib.hid ((HW.out.setCell (by simp) _).setCell (by simp) _)⟩
    · unfold exI
      have c1 : wr.cell? ⟨w.heap.size + 1, 12, none⟩ = some (.int .i64 0) := HR.out.cell 12
      have c2 : wr.cell? ⟨w.heap.size + 1, 23, none⟩ = some (.int .i64 0) := HR.out.cell 23
      have c3 : wr.cell? ⟨w.heap.size + 1, 34, none⟩ = some (.int .i64 2) := HR.out.cell 34
      have f1 := HR.out.frozen 12
      have f2 := HR.out.frozen 23
      have f3 := HR.out.frozen 34
      go_upto_region 10 with fail
      have hr3 : Row (((wr.setCell ⟨w.heap.size + 1, 12, none⟩ (.int .i64 1)).setCell ⟨w.heap.size + 1, 23, none⟩ (.int .i64 1)).setCell ⟨w.heap.size + 1, 34, none⟩ (.int .i64 3)) (w.heap.size + 1) 64 (exF.flatMap Cls.cells) := ((HR.out.set 12 (.int .i64 1)).set 23 (.int .i64 1)).set 34 (.int .i64 3)
      have hb3 : Below w.heap.size w (((wr.setCell ⟨w.heap.size + 1, 12, none⟩ (.int .i64 1)).setCell ⟨w.heap.size + 1, 23, none⟩ (.int .i64 1)).setCell ⟨w.heap.size + 1, 34, none⟩ (.int .i64 3)) := ((HW.out.setCell (by simp) _).setCell (by simp) _).setCell (by simp) _
      generalize World.setCell (World.setCell (World.setCell wr _ _) _ _) _ _ = W3 at *
      have HR3 := Lib.hid hr3; have HB3 := Lib.hid hb3
      have hcomp := compile_c (some ⟨w.heap.size + 1, 0, none⟩) 4 4 exF (fun x hx => by
        simp only [exF, List.mem_cons, List.not_mem_nil, or_false] at hx
        rcases hx with rfl | rfl | rfl | rfl <;> decide) (by decide) (by decide) W3 (row_holds hr3 rfl _ hr3.lt)
      have HC := Lib.hid hcomp
      have hw3 := hb3.size
      clear hr3 hb3 hcomp c1 c2 c3 f1 f2 f3
      go_upto_region 11 with (go_at_call 68; refine (HC.out).mono ?_; rintro e w4 (⟨hn, _⟩ | ⟨_, T, rfl, hT, hTw, hb4⟩); exact absurd ex_chk hn; have HT := Lib.hid hT; have HB4 := Lib.hid hb4; clear hT hb4)
      have hw4 := HB4.out.size
      have hle := Lib.hid (tleaves_c T exF ex_tree w4 HT.out)
      rw [ex_leaves] at hle
      unfold ListOk at hle
      have hwf1 : (Lit.int .i64 1).wf = true := by decide
      go_wp2_with (first
        | (go_at_call 75; refine (hle.out).mono ?_; rintro e w5 ⟨A5, c5, rfl, hs5, hb5⟩; have HS5 := Lib.hid hs5; have HB5 := Lib.hid hb5; have HR5 := Lib.hid (row_new w5 3 (St.I [2, 4])); clear hs5 hb5)
        | (go_at_call 32; refine (same_two _ _ _ _ _ [2, 4] 2 rfl (by omega) ((HS5.out.alloc (Nat.le_refl _) _).more (by simp)) (HR5.out.sl rfl)).mono ?_; rintro e w6 ⟨rfl, hb6⟩; have HB6 := Lib.hid ((HB5.out.alloc HB5.out.size _).trans (hb6.mono (by have := HB5.out.size; simp; omega))); clear hb6)
        | (go_at_call 81; refine (tlevel_c T exF 1 hwf1 w4.heap.size w6 (HT.out.below HB6.out)).mono ?_; rw [ex_levelS]; rintro e w7 ⟨rfl, rfl⟩)
        | (go_at_call 71; refine (troot_c T exF w4.heap.size w6 (HT.out.below HB6.out)).mono ?_; rw [ex_rootS]; rintro e w8 ⟨rfl, rfl⟩))
      go_ret
      exact ⟨rfl, (HB3.out.trans (HB4.out.mono hw3)).trans (HB6.out.mono (by omega))⟩
end Go.Proofs.Ytdoemgccmjddcaa.Tr
