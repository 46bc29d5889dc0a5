/- The document's example of quotas. -/
import Derived.Test.YtdankjhjmaehiaaTp5
import Derived.Test.YtdankjhjmaehiaaTr10
import Derived.Test.YtdankjhjmaehiaaQtM
namespace Go.Proofs.Ytdankjhjmaehiaa.Qu
open Go.RowKit Go.Maps Go.Proofs.Ytdankjhjmaehiaa.Fl Go.Proofs.Ytdankjhjmaehiaa.Wd Go.Proofs.Ytdankjhjmaehiaa.Li Go.Proofs.Ytdankjhjmaehiaa.Mp Go.Proofs.Ytdankjhjmaehiaa.Tp Go.Proofs.Ytdankjhjmaehiaa.Tr Go.Proofs.Ytdankjhjmaehiaa.Cl Go.Proofs.Ytdankjhjmaehiaa.So Go.Proofs.Ytdankjhjmaehiaa.Sw
attribute [local go_sem] run_store_float

def quarter : Nat := 4598175219545276416
theorem mag_quarter : mag quarter * 2 ^ 2 = U := by
  have h := mag_down 1020 2 (by decide)
  rwa [show (1020 + 1) * 2 ^ 52 = quarter by decide] at h
theorem rhe_mul (k : Nat) : rhe (k * U) = k := by
  unfold rhe
  have hp := U_pos
  rw [Nat.mul_div_cancel _ hp, Nat.mul_mod_left, if_neg (by omega)]; rfl
theorem units_half : unitsS half = (524288, 0) := by
  unfold unitsS
  rw [if_neg (by decide +kernel), if_neg (by decide +kernel)]
  rw [show half % 9223372036854775808 = half from rfl, show mag half * 2 ^ 20 = 524288 * (mag half * 2) by omega, mag_half, rhe_mul]
theorem units_quarter : unitsS quarter = (262144, 0) := by
  unfold unitsS
  rw [if_neg (by decide +kernel), if_neg (by decide +kernel)]
  rw [show quarter % 9223372036854775808 = quarter from rfl, show mag quarter * 2 ^ 20 = 262144 * (mag quarter * 2 ^ 2) by omega, mag_quarter, rhe_mul]
def exS (i p : Int) (s : Nat) : Cls := ⟨i, p, s, 0, 1, 1, 0, 0, 0, false, false⟩
theorem right_exS (i p : Int) (s u : Nat) (hu : unitsS s = (u, 0)) (h0 : u ≠ 0) (hi : 1 ≤ i ∧ i ≤ 65535) (hp : 0 ≤ p ∧ p ≤ 65535) (hne : p ≠ i) : rightS (exS i p s) = 0 := by
  unfold rightS exS fairS
  simp [hu, h0]
  omega
def exq : List Cls := [exK 1 0, exS 2 1 half, exS 3 1 quarter]
theorem exq_scan : scan exq 3 = 0 := by
  have e0 : errAt exq 0 = 0 := by rw [errAt_is (c := exK 1 0) rfl (right_ex 1 0 (by omega) (by omega) (by omega)), if_pos (by decide +kernel)]
  have e1 : errAt exq 1 = 0 := by rw [errAt_is (c := exS 2 1 half) rfl (right_exS 2 1 half _ units_half (by decide) (by omega) (by omega) (by omega)), if_pos (by decide +kernel)]
  have e2 : errAt exq 2 = 0 := by rw [errAt_is (c := exS 3 1 quarter) rfl (right_exS 3 1 quarter _ units_quarter (by decide) (by omega) (by omega) (by omega)), if_pos (by decide +kernel)]
  rw [scan_succ, e2]
  rw [scan_succ, e1]
  rw [scan_succ, e0]
  rfl
theorem exq_check : checkS exq = 0 := by rw [check_is (by decide) (by decide)]; exact exq_scan
theorem exq_rootS : rootS exq = 1 := by decide +kernel
theorem exq_root : Tp.Root exq (rootS exq) := by
  rw [exq_rootS]
  refine ⟨⟨exK 1 0, by simp [exq], rfl, rfl⟩, fun c hc h0 => ?_, fun c hc h0 => ?_⟩
  · simp only [exq, List.mem_cons, List.not_mem_nil, or_false] at hc
    rcases hc with rfl | rfl | rfl <;> first | rfl | (simp [exS] at h0)
  · simp only [exq, List.mem_cons, List.not_mem_nil, or_false] at hc
    rcases hc with rfl | rfl | rfl <;> simp [exK, exS, exq, ids] at h0 ⊢
theorem exq_desc : desc exq 64 (rootS exq) = [1, 2, 3] := by rw [exq_rootS]; decide +kernel
theorem exq_level : level exq 1 = 2 := by decide +kernel
theorem exq_chk : chk exq = 0 := by
  refine chk_fine exq_check exq_root (fun i hi => ?_) (by rw [exq_rootS, exq_level]; decide)
  rw [exq_desc]
  exact hi
theorem exq_tree : Tp.Tree exq := chk_tree exq_chk
theorem exq_u1 : uAt exq 1 = 1048576 := by
  rw [uAt_some (c := exK 1 0) rfl]; unfold uOf exK; rw [units_one]
theorem exq_u2 : uAt exq 2 = 524288 := by
  rw [uAt_some (c := exS 2 1 half) rfl]; unfold uOf exS; rw [units_half]
theorem exq_u3 : uAt exq 3 = 262144 := by
  rw [uAt_some (c := exS 3 1 quarter) rfl]; unfold uOf exS; rw [units_quarter]
theorem exq_k1 : kids exq 1 = [2, 3] := by decide +kernel
theorem exq_k2 : kids exq 2 = [] := by decide +kernel
theorem exq_k3 : kids exq 3 = [] := by decide +kernel
theorem exq_s1 : spareS exq 1 = 262144 := by
  unfold spareS; rw [exq_k1, exq_u1]; simp only [List.map_cons, List.map_nil, List.sum_cons, List.sum_nil, exq_u2, exq_u3]; decide
theorem exq_s2 : spareS exq 2 = 524288 := by unfold spareS; rw [exq_k2, exq_u2]; decide
theorem exq_s3 : spareS exq 3 = 262144 := by unfold spareS; rw [exq_k3, exq_u3]; decide
theorem exq_ids : ids exq = [1, 2, 3] := rfl
theorem exq_quota : quotaB exq = true := by
  unfold quotaB
  rw [exq_ids]
  simp [exq_s1, exq_s2, exq_s3]
theorem exq_sp : spQ exq 1 = 262144 := by unfold spQ; rw [if_pos (by rw [exq_ids]; simp)]; exact exq_s1
theorem exq_share : ∀ x ∈ exq, x.share < 18446744073709551616 := fun x hx => by
  simp only [exq, List.mem_cons, List.not_mem_nil, or_false] at hx
  rcases hx with rfl | rfl | rfl <;> decide
set_option maxRecDepth 20000 in
set_option maxHeartbeats 2000000 in
theorem lives20 (w : World) : Calls Try.prog 14 #[] w fun e w' => e = .returned (.bool true) ∧ Below w.heap.size w w' := by
  have hrow0 := Lib.hid (row_new (w.alloc (.cells (exK 1 0).cells.toArray 60)) 60 (exq.flatMap Cls.cells))
  have hb0 := Lib.hid (((Below.refl _ w).alloc (Nat.le_refl _) (.cells (exK 1 0).cells.toArray 60)).alloc (by simp) (.cells (exq.flatMap Cls.cells).toArray 60))
  have hsz : (w.alloc (.cells (exK 1 0).cells.toArray 60)).heap.size = w.heap.size + 1 := by simp
  rw [hsz] at hrow0
  clear hsz
  go_enter Try.func14, Try.ntmps14
  go_upto_region 5 with fail
  generalize hW : World.alloc (World.alloc w _) _ = W
  have HR1 : Hid (Row W (w.heap.size + 1) 60 (exq.flatMap Cls.cells)) := Lib.hid (by rw [← hW]; exact hrow0.out)
  have HB1 : Hid (Below w.heap.size w W) := Lib.hid (by rw [← hW]; exact hb0.out)
  clear hrow0 hb0 hW
  have hcomp := compile_c (some ⟨w.heap.size + 1, 0, none⟩) 3 3 exq exq_share (by decide) (by decide) W (row_holds HR1.out rfl _ HR1.out.lt)
  have HC := Lib.hid hcomp
  have hw1 := HB1.out.size
  clear hcomp
  go_upto_region 6 with (go_at_call 5; (with_reducible refine (HC.out).mono ?_); rintro e w4 (⟨hn, _⟩ | ⟨_, T, rfl, hT, hTw, hb4⟩); exact absurd exq_chk hn; have HT := Lib.hid hT; have HB4 := Lib.hid hb4; clear hT hb4)
  have hw4 := HB4.out.size
  have HQ := Lib.hid (newq_c T exq exq_tree exq_share 1 w4 HT.out)
  unfold QNewOk at HQ
  go_upto_region 7 with (go_at_call 6; (with_reducible refine (HQ.out).mono ?_); rintro e w5 (⟨hn, _⟩ | ⟨_, hn, _⟩ | ⟨_, _, q, rfl, hq, hql, hb5⟩); exact absurd hn (by rw [exq_quota]; decide); exact absurd hn (by decide); have HQQ := Lib.hid hq; have HB5 := Lib.hid hb5; clear hq hb5)
  have HSP := Lib.hid (qspare_c (.pointer (some ⟨q, 0, none⟩)) exq 1 1 (by decide) w5 (.inr ⟨q, rfl, HQQ.out⟩))
  rw [exq_sp] at HSP
  go_wp2_with (go_at_call 9; (with_reducible refine (HSP.out).mono ?_); rintro e w6 ⟨rfl, hb6⟩; have HB6 := Lib.hid hb6; clear hb6)
  go_ret
  exact ⟨rfl, HB1.out.trans ((HB4.out.trans ((HB5.out.trans (HB6.out.mono HB5.out.size)).mono hw4)).mono hw1)⟩
end Go.Proofs.Ytdankjhjmaehiaa.Qu
