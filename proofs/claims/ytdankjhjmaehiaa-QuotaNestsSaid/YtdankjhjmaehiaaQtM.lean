/- A table's times; what is spare; Check. quota.New. What a quota tells: of a class; of all leaves. A quota's methods. The document's quotas. What all leaves have together. -/
import Derived.Test.YtdankjhjmaehiaaQrM
import Derived.Test.YtdankjhjmaehiaaQp2
import Derived.Test.YtdankjhjmaehiaaTr12
import Derived.Test.YtdankjhjmaehiaaQs1
/- A table's times; what is spare; Check. -/
namespace Go.Proofs.Ytdankjhjmaehiaa.Qu
open Go.RowKit Go.Maps Go.Proofs.Ytdankjhjmaehiaa.Fl Go.Proofs.Ytdankjhjmaehiaa.Wd Go.Proofs.Ytdankjhjmaehiaa.Li Go.Proofs.Ytdankjhjmaehiaa.Mp Go.Proofs.Ytdankjhjmaehiaa.Tp Go.Proofs.Ytdankjhjmaehiaa.Tr Go.Proofs.Ytdankjhjmaehiaa.Cl Go.Proofs.Ytdankjhjmaehiaa.So
attribute [local go_sem] run_store_float Lx.opX Rel.oneOk
attribute [local irreducible] Lx.wpX

theorem exact_cells (tpb u n : Int) : exactS tpb u ((cellsS n : Int) * 8) = exactS tpb u n := by
  unfold exactS; rw [cells_mul (cellsS n) (cells_le n)]
theorem tab_at (tpb u n : Int) : (tabS tpb u)[cellsS n]? = some (.int .i64 (exactS tpb u n : Int)) := by
  have h := cells_le n
  unfold tabS
  rw [tabP_at tpb u 257 (cellsS n) (by omega), if_pos (by omega), exact_cells]
set_option maxRecDepth 20000 in
set_option maxHeartbeats 1000000 in
theorem time_c (T : Nat) (tpb u n : Int) (w : World) (hT : Row w T 90 (tabS tpb u)) :
    Calls Try.prog 33 #[.pointer (some ⟨T, 0, none⟩), .int .i64 n] w fun e w' => e = .returned (.int .i64 (exactS tpb u n : Int)) ∧ Below w.heap.size w w' := by
  have H2 := Lib.hid (cells_c n)
  have hcl := cells_le n
  have hc := hT.cell (cellsS n)
  rw [tab_at] at hc
  generalize exactS tpb u n = x at *
  generalize cellsS n = k at *
  have hkz : (k : Int) < 257 := by omega
  clear hT
  go_enter Try.func33, Try.ntmps33
  go_upto_region 3 with fail
  refine Lx.wp_region_X 5 (fun w' => ∃ z, w' = Lx.kept (fun _ => False) w.drew z) (fun i => i == 2) (by kernel_rfl) (by kernel_rfl) (Lx.kept_of (Lx.Keeps.refl _ _)) ?_
  simp only [List.take_succ_cons, List.take_zero, List.drop_succ_cons, List.drop_zero]
  repeat (refine Lx.wpX_step (fun K hK => ?_); first | (refine Lx.opX_free (by rfl) (by rfl) (by rfl) ?_; go_big_quiet_op; refine hK _ _ ?_; clear hK K) | (refine Lx.opX_nil (by rfl) (by rfl) (by rfl) (by rfl) ?_; refine hK _ _ ?_; clear hK K; simp only [Act.put, List.setIfInBounds_toArray, List.set_cons_succ, List.set_cons_zero]))
  refine Lx.wpX_step (fun K hK => ?_)
  refine Lx.opX_law (by rfl) (by rfl) ?_
  go_wp2_with (go_at_call 54; (with_reducible refine (H2.out _).mono ?_); rintro e w' ⟨rfl, rfl⟩)
  refine Lx.nq_mk (Lx.kept_of (Lx.Keeps.refl _ _)) (hK _ _ ?_)
  clear hK K
  repeat (refine Lx.wpX_step (fun K hK => ?_); first | (refine Lx.opX_free (by rfl) (by rfl) (by rfl) ?_; go_big_quiet_op; refine hK _ _ ?_; clear hK K) | (refine Lx.opX_nil (by rfl) (by rfl) (by rfl) (by rfl) ?_; refine hK _ _ ?_; clear hK K; simp only [Act.put, List.setIfInBounds_toArray, List.set_cons_succ, List.set_cons_zero]))
  refine Lx.wpX_nil ?_
  go_wp2
  go_ret
  exact ⟨rfl, (Below.refl _ w).drew⟩
theorem time_none (n : Int) (w : World) : Calls Try.prog 33 #[.pointer none, .int .i64 n] w fun e w' => e = .returned (.int .i64 0) ∧ w = w' := by
  go_enter Try.func33, Try.ntmps33
  go_wp2
  go_ret
  exact ⟨rfl, rfl⟩
/-- what the first k children have -/
def kidS (l : List Cls) (id : Int) (k : Nat) : Nat := (((kids l id).take k).map (uAt l)).sum
theorem kidS_succ {l : List Cls} {id : Int} {k : Nat} {y : Int} (h : (kids l id)[k]? = some y) : kidS l id (k + 1) = kidS l id k + uAt l y := by
  unfold kidS; rw [List.take_add_one, h, List.map_append, List.sum_append]; simp
theorem kidS_le {l : List Cls} (hs : ∀ c ∈ l, c.share < 18446744073709551616) (h64 : l.length ≤ 64) (id : Int) (k : Nat) : kidS l id k ≤ 67108864 := by
  have h1 := sum_le (uAt l) 1048576 ((kids l id).take k) (fun z _ => uAt_le hs z)
  have h2 := kids_len l id
  have h3 : ((kids l id).take k).length ≤ (kids l id).length := List.length_take_le' _ _
  unfold kidS
  have : ((kids l id).take k).length * 1048576 ≤ 64 * 1048576 := Nat.mul_le_mul_right _ (by omega)
  omega
set_option maxRecDepth 20000 in
set_option maxHeartbeats 2000000 in
theorem spare_c (T : Nat) (l : List Cls) (R : Tp.Tree l) (hs : ∀ c ∈ l, c.share < 18446744073709551616) (id : Int) (hi : id ∈ ids l) (w : World) (hT : TreeAt w w.heap.size T l) :
    Calls Try.prog 30 #[.pointer (some ⟨T, 0, none⟩), .int .i64 id] w fun e w' => e = .returned (.tuple #[.int .i64 (uAt l id : Int), .int .i64 (spareS l id)]) ∧ Below w.heap.size w w' := by
  have h64 := R.le
  obtain ⟨x, hx⟩ := at_of_mem hi
  have hxm := (at_mem hx).1
  have hp := R.good.pos x hxm
  have hwf : (Lit.int .i64 id).wf = true := wf_id (i := id) (by rw [← (at_mem hx).2]; omega)
  have hcl := tclass_c T l id hwf w hT
  rw [hx] at hcl
  unfold ClassOk clsV at hcl
  dsimp only [Option.getD, Option.isSome] at hcl
  have hun := fun w => unitsc_any x (hs x hxm) w
  rw [show (unitsS x.share).1 = uAt l id by rw [uAt_some hx]; rfl] at hun
  unfold Cls.agg Ret1 at hun
  have hch := fun u (hu : Below w.heap.size w u) => tchildren_c T l h64 id hwf u ((hT.below hu).up hu.size)
  have hkl := kids_len l id
  unfold ListOk at hch
  have hul := uAt_le hs id
  have HSP := Lib.hid (show spareS l id = (uAt l id : Int) - (kidS l id (kids l id).length : Int) by unfold spareS kidS; rw [List.take_length])
  have HKL := Lib.hid (fun k => kidS_le hs h64 id k)
  have HKS := Lib.hid (fun (k : Nat) (y : Int) (h : (kids l id)[k]? = some y) => kidS_succ h)
  have HCL := Lib.hid hcl; have HUN := Lib.hid hun; have HCH := Lib.hid hch; have HT := Lib.hid hT; have HS := Lib.hid hs; have HR := Lib.hid R
  have HK0 : kidS l id 0 = 0 := rfl
  have HKM := Lib.hid (fun (y : Int) (h : y ∈ kids l id) => kids_ids h)
  generalize spareS l id = sp at *
  generalize uAt l id = u at *
  generalize hks : kids l id = ks at *
  clear hcl hun hch hT hs R hx hxm hp hi hks
  go_enter Try.func30, Try.ntmps30
  go_wp2_with (first
    | (go_at_call 44; (with_reducible refine (HCL.out).mono ?_); rintro e w1 ⟨rfl, hb1⟩; have HB1 := Lib.hid (hb1.alloc hb1.size (.cells #[.int .i64 x.id, .int .i64 x.parent, .float .f64 x.share, .int .i64 x.prio, .int .i64 x.quantum, .int .i64 x.limit, .int .i64 x.weight, .int .i64 x.minIdle, .int .i64 x.maxIdle, .bool x.bounded, .bool x.isolated] 60)); clear hb1)
    | (go_at_call 51; (with_reducible refine (HUN.out _).mono ?_); rintro e w2 ⟨rfl, hb2⟩; have HB2 := Lib.hid (HB1.out.trans (hb2.mono HB1.out.size)); clear hb2)
    | (go_at_call 23; (with_reducible refine (HCH.out _ HB2.out).mono ?_); rintro e w3 ⟨A3, c3, rfl, hs3, hb3⟩; have HS3 := Lib.hid hs3; have HB3 := Lib.hid (HB2.out.trans (hb3.mono HB2.out.size)); clear hs3 hb3))
  have hw3 := HB3.out.size
  go_loopg [9, 27] ks.length (fun kx s9 s27 wr => ∃ k : Nat, s27 = .int .i64 k ∧ s9 = .int .i64 ((u : Int) - (kidS l id k : Int)) ∧ k ≤ ks.length ∧ ks.length - k ≤ kx ∧ Hid (Below w3.heap.size w3 wr))
  case atStart => exact ⟨0, rfl, by rw [HK0]; simp, by omega, by omega, Lib.hid (Below.refl _ _)⟩
  case round =>
    obtain ⟨k, rfl, rfl, hk, hkx, HW⟩ := hrel
    have hwz := HW.out.size
    have hkb := HKL.out k
    by_cases hlt : k < ks.length
    · have hltz : (k : Int) < (ks.length : Int) := by omega
      obtain ⟨a, v, rfl, hab, hv, hc⟩ := (HS3.out.below HW.out).cell1 (k := k) hlt
      unfold St.I at hv
      simp only [List.getElem?_map] at hv
      obtain ⟨y, hy0, rfl⟩ := Option.map_eq_some_iff.1 hv
      have hyi := HKM.out y (List.mem_of_getElem? hy0)
      obtain ⟨d, hd⟩ := at_of_mem hyi
      have hdm := (at_mem hd).1
      have hdp := HR.out.good.pos d hdm
      have hwfy : (Lit.int .i64 y).wf = true := wf_id (i := y) (by rw [← (at_mem hd).2]; omega)
      have hcl := tclass_c T l y hwfy wr ((HT.out.below (HB3.out.trans (HW.out.mono hw3))).up (by omega))
      rw [hd] at hcl
      unfold ClassOk clsV at hcl
      dsimp only [Option.getD, Option.isSome] at hcl
      have hun := fun w => unitsc_any d (HS.out d hdm) w
      rw [show (unitsS d.share).1 = uAt l y by rw [uAt_some hd]; rfl] at hun
      unfold Cls.agg Ret1 at hun
      have hks1 := HKS.out k y hy0
      have huy := uAt_le HS.out y
      have HK1 := Lib.hid hks1
      have hkb1 := HKL.out (k + 1)
      rw [hks1] at hkb1
      have HCY := Lib.hid hcl; have HUY := Lib.hid hun
      generalize uAt l y = uy at *
      generalize kidS l id k = ke at *
      clear hcl hun hv hy0 hyi hd hdm hdp hks1
      go_wp2_with (first
        | (go_at_call 44; (with_reducible refine (HCY.out).mono ?_); rintro e w4 ⟨rfl, hb4⟩; have HB4 := Lib.hid (hb4.alloc hb4.size (.cells #[.int .i64 d.id, .int .i64 d.parent, .float .f64 d.share, .int .i64 d.prio, .int .i64 d.quantum, .int .i64 d.limit, .int .i64 d.weight, .int .i64 d.minIdle, .int .i64 d.maxIdle, .bool d.bounded, .bool d.isolated] 60)); clear hb4)
        | (go_at_call 51; (with_reducible refine (HUY.out _).mono ?_); rintro e w5 ⟨rfl, hb5⟩; have HB5 := Lib.hid (HB4.out.trans (hb5.mono HB4.out.size)); clear hb5))
      go_roundg (ks.length - (k + 1))
      case measure => omega
      case rel => exact ⟨k + 1, by go_num, by rw [HK1.out]; go_num, by omega, by omega, Lib.hid (HW.out.trans (HB5.out.mono hwz))⟩
    · have hltz : ¬ (k : Int) < (ks.length : Int) := by omega
      obtain rfl : k = ks.length := by omega
      go_wp2
      go_ret2
      exact ⟨by rw [HSP.out]; rfl, HB3.out.trans (HW.out.mono hw3)⟩
/-- none of the first k has less than nothing left -/
def fineP (l : List Cls) (k : Nat) : Prop := ∀ i ∈ (ids (sortC l)).take k, 0 ≤ spareS l i
theorem fine_all {l : List Cls} (h : fineP l (ids (sortC l)).length) : quotaB l = true := by
  unfold fineP at h
  rw [List.take_length] at h
  exact List.all_eq_true.2 fun i hi => decide_eq_true (h i ((sort_ids i).2 hi))
theorem fine_not {l : List Cls} {i : Int} (hi : i ∈ ids l) (h : spareS l i < 0) : quotaB l = false := by
  cases hq : quotaB l with
  | false => rfl
  | true => have := quota_all hq i hi; omega
/-- what Check says -/
def quotaI (l : List Cls) : Int := if quotaB l = true then 0 else 13
theorem quotaI_yes {l : List Cls} (h : quotaB l = true) : quotaI l = 0 := by unfold quotaI; rw [if_pos h]
theorem quotaI_no {l : List Cls} (h : quotaB l = false) : quotaI l = 13 := by unfold quotaI; rw [h]; rfl
def RetI2 (n : Int) (w : World) (e : Ending) (w' : World) : Prop := e = .returned (.int .i64 n) ∧ Below w.heap.size w w'
set_option maxRecDepth 20000 in
set_option maxHeartbeats 1000000 in
theorem qcheck_c (T : Nat) (l : List Cls) (R : Tp.Tree l) (hs : ∀ c ∈ l, c.share < 18446744073709551616) (w : World) (hT : TreeAt w w.heap.size T l) :
    Calls Try.prog 7 #[.pointer (some ⟨T, 0, none⟩)] w (RetI2 (quotaI l) w) := by
  have h64 := R.le
  have hil := ids_len l
  have hids := tids_c T l h64 w hT
  unfold ListOk at hids
  have HID := Lib.hid hids
  have HSP := Lib.hid (fun u (hu : Below w.heap.size w u) i hi => spare_c T l R hs i hi u ((hT.below hu).up hu.size))
  have HMEM := Lib.hid (fun (i : Int) (h : i ∈ ids (sortC l)) => (sort_ids i).1 h)
  have HALL := Lib.hid (fun (h : fineP l (ids (sortC l)).length) => quotaI_yes (fine_all h))
  have HNOT := Lib.hid (fun (i : Int) (hi : i ∈ ids l) (h : spareS l i < 0) => quotaI_no (fine_not hi h))
  have HF0 : fineP l 0 := fun i hi => by simp at hi
  have HFS := Lib.hid (fun (k : Nat) (y : Int) (h : (ids (sortC l))[k]? = some y) (hf : fineP l k) (hy : 0 ≤ spareS l y) => (show fineP l (k + 1) from fun i hi => by
    rw [List.take_add_one, h] at hi
    rcases List.mem_append.1 hi with h1 | h1
    · exact hf i h1
    · simp at h1; subst h1; exact hy))
  have HF00 := Lib.hid HF0
  obtain ⟨zs, hzs⟩ : ∃ zs, zs = ids (sortC l) := ⟨_, rfl⟩
  rw [← hzs] at HID HMEM HFS hil HALL
  have hzl : zs.length ≤ 64 := by omega
  clear hids hT hs R hzs HF0
  unfold RetI2
  go_enter Try.func7, Try.ntmps7
  go_wp2_with (go_at_call 21; (with_reducible refine (HID.out).mono ?_); rintro e w1 ⟨A1, c1, rfl, hs1, hb1⟩; have HS1 := Lib.hid hs1; have HB1 := Lib.hid hb1; clear hs1 hb1)
  have hw1 := HB1.out.size
  go_loopg [12] zs.length (fun kx s12 wr => ∃ k : Nat, s12 = .int .i64 k ∧ k ≤ zs.length ∧ zs.length - k ≤ kx ∧ Hid (fineP l k) ∧ Hid (Below w1.heap.size w1 wr))
  case atStart => exact ⟨0, rfl, by omega, by omega, HF00, Lib.hid (Below.refl _ _)⟩
  case round =>
    obtain ⟨k, rfl, hk, hkx, HF, HW⟩ := hrel
    have hwz := HW.out.size
    by_cases hlt : k < zs.length
    · have hltz : (k : Int) < (zs.length : Int) := by omega
      obtain ⟨a, v, rfl, hab, hv, hc⟩ := (HS1.out.below HW.out).cell1 (k := k) hlt
      unfold St.I at hv
      simp only [List.getElem?_map] at hv
      obtain ⟨y, hy0, rfl⟩ := Option.map_eq_some_iff.1 hv
      have hyi := HMEM.out y (List.mem_of_getElem? hy0)
      have HY := Lib.hid hyi
      have HS := Lib.hid (HSP.out wr (HB1.out.trans (HW.out.mono hw1)) y hyi)
      have HFN := Lib.hid (HFS.out k y hy0 HF.out)
      have HN := Lib.hid (HNOT.out y hyi)
      clear hv hy0 hyi
      generalize spareS l y = sp at *
      by_cases hneg : sp < 0
      · have HQ := Lib.hid (HN.out hneg)
        go_wp2_with (go_at_call 30; (with_reducible refine (HS.out).mono ?_); rintro e w2 ⟨rfl, hb2⟩; have HB2 := Lib.hid hb2; clear hb2)
        go_ret
        exact ⟨by rw [HQ.out]; rfl, HB1.out.trans ((HW.out.trans (HB2.out.mono hwz)).mono hw1)⟩
      · have HP := Lib.hid (show 0 ≤ sp by omega)
        go_wp2_with (go_at_call 30; (with_reducible refine (HS.out).mono ?_); rintro e w2 ⟨rfl, hb2⟩; have HB2 := Lib.hid hb2; clear hb2)
        go_roundg (zs.length - (k + 1))
        case measure => omega
        case rel => exact ⟨k + 1, by go_num, by omega, by omega, Lib.hid (HFN.out HP.out), Lib.hid (HW.out.trans (HB2.out.mono hwz))⟩
    · have hltz : ¬ (k : Int) < (zs.length : Int) := by omega
      obtain rfl : k = zs.length := by omega
      have HQ := Lib.hid (HALL.out HF.out)
      go_wp2
      go_ret
      exact ⟨by rw [HQ.out]; rfl, HB1.out.trans (HW.out.mono hw1)⟩
theorem qcheck_none (w : World) : Calls Try.prog 7 #[.pointer none] w fun e w' => e = .returned (.int .i64 1) ∧ w = w' := by
  go_enter Try.func7, Try.ntmps7
  go_wp2
  go_ret
  exact ⟨rfl, rfl⟩
end Go.Proofs.Ytdankjhjmaehiaa.Qu

/- quota.New. -/
namespace Go.Proofs.Ytdankjhjmaehiaa.Qu
open Go.RowKit Go.Maps Go.Proofs.Ytdankjhjmaehiaa.Fl Go.Proofs.Ytdankjhjmaehiaa.Wd Go.Proofs.Ytdankjhjmaehiaa.Li Go.Proofs.Ytdankjhjmaehiaa.Mp Go.Proofs.Ytdankjhjmaehiaa.Tp Go.Proofs.Ytdankjhjmaehiaa.Tr Go.Proofs.Ytdankjhjmaehiaa.Cl Go.Proofs.Ytdankjhjmaehiaa.So
attribute [local go_sem] run_store_float

def tpbB (tpb : Int) : Bool := decide (1 ≤ tpb) && decide (tpb ≤ 1048576)
theorem rate_tpb {tpb : Int} {u : Nat} (h1 : 1 ≤ u) (h2 : u ≤ 1048576) : rateI tpb (u : Int) = tpbB tpb := by
  unfold rateI tpbB
  rw [decide_eq_true (show (1 : Int) ≤ (u : Int) by omega), decide_eq_true (show (u : Int) ≤ 1048576 by omega), Bool.and_true, Bool.and_true]
theorem sl_apart {w w' : World} {B z n b : Nat} {A : Option Addr} {xs : List Value} (h : Sl w B z A n xs) (hm : ∃ es m, w.heap[b]? = some (.map es m)) (hk : ∀ q, q < B → q ≠ b → w'.heap[q]? = w.heap[q]?) : Sl w' B z A n xs :=
  ⟨h.1, fun h0 => by
    obtain ⟨es, m, hm⟩ := hm
    obtain ⟨a, ha, hb, hc⟩ := h.2 h0
    refine ⟨a, ha, hb, fun j u hu => ?_⟩
    have h1 := hc j u hu
    have hbl : (a.add j).block = a.block := add_block a j
    have hne : a.block ≠ b := fun e => by
      unfold World.cell? at h1
      rw [hbl, e, hm] at h1
      simp at h1
    rw [← h1]
    exact World.cell?_of_block (by rw [hbl]; exact hk a.block hb hne)⟩
/-- the rows of the classes of S, each with its table -/
def Rows (w : World) (h : Nat) (l : List Cls) (tpb : Int) (S : List Int) (f : Int → Option Rw) : Prop :=
  ∀ id, (id ∈ S → ∃ T, f id = some ⟨uAt l id, spareS l id, some T⟩ ∧ h < T ∧ T < w.heap.size ∧ Row w T 90 (tabS tpb (uAt l id))) ∧ (id ∉ S → f id = none)
theorem Rows.nil (w : World) (h : Nat) (l : List Cls) (tpb : Int) : Rows w h l tpb [] (fun _ => none) := fun id => ⟨fun h => (by cases h), fun _ => rfl⟩
theorem Rows.below {w w' : World} {h : Nat} {l : List Cls} {tpb : Int} {S : List Int} {f : Int → Option Rw} (r : Rows w h l tpb S f) (hb : Below w.heap.size w w') : Rows w' h l tpb S f := fun id =>
  ⟨fun hi => by
    obtain ⟨T, h1, h2, h3, h4⟩ := (r id).1 hi
    exact ⟨T, h1, h2, Nat.lt_of_lt_of_le h3 hb.size, h4.below hb h3⟩, (r id).2⟩
theorem Rows.put {w w' : World} {h : Nat} {l : List Cls} {tpb : Int} {S : List Int} {f : Int → Option Rw} (r : Rows w h l tpb S f) (hg : w.grownBy w' (some h)) {y : Int} {T : Nat} (hT : h < T) (hTl : T < w.heap.size) (hR : Row w T 90 (tabS tpb (uAt l y))) :
    Rows w' h l tpb (S ++ [y]) (fun i => if i = y then some ⟨uAt l y, spareS l y, some T⟩ else f i) := fun id =>
  ⟨fun hi => by
    by_cases e : id = y
    · subst e
      exact ⟨T, by simp, hT, Nat.lt_of_lt_of_le hTl hg.size, (hg.block T hTl (fun e => by injection e with e; omega)).trans hR⟩
    · have hi2 : id ∈ S := by
        rcases List.mem_append.1 hi with h1 | h1
        · exact h1
        · simp at h1; exact absurd h1 e
      obtain ⟨T', h1, h2, h3, h4⟩ := (r id).1 hi2
      exact ⟨T', by simp only [if_neg e]; exact h1, h2, Nat.lt_of_lt_of_le h3 hg.size, (hg.block T' h3 (fun e => by injection e with e; omega)).trans h4⟩,
   fun hn => by
    have e : id ≠ y := fun e => hn (by rw [e]; simp)
    simp only [if_neg e]
    exact (r id).2 (fun h1 => hn (List.mem_append_left _ h1))⟩
/-- a quota lies at q, all of it below B -/
def QuotaAt (w : World) (B q : Nat) (l : List Cls) (tpb : Int) : Prop := ∃ (h : Nat) (A : Option Addr) (c : Nat) (f : Int → Option Rw), q < B ∧ h < B ∧
  w.heap[q]? = some (.cells #[.map (some h), .slice A (leavesS l).length c] 63 (0, 0)) ∧
  Sl w B 1 A (leavesS l).length (St.I (leavesS l)) ∧ At Rw.val Rw.enc Rw.nil Try.prog 3 w h 64 f ∧
  ∀ id, (id ∈ ids l → ∃ T, f id = some ⟨uAt l id, spareS l id, some T⟩ ∧ T < B ∧ Row w T 90 (tabS tpb (uAt l id))) ∧ (id ∉ ids l → f id = none)
theorem QuotaAt.below {w w' : World} {B q : Nat} {l : List Cls} {tpb : Int} (hb : Below B w w') (t : QuotaAt w B q l tpb) : QuotaAt w' B q l tpb := by
  obtain ⟨h, A, c, f, hq, hh, h1, h2, h3, h4⟩ := t
  refine ⟨h, A, c, f, hq, hh, (hb.block _ hq).trans h1, h2.below hb, h3.below hb hh, fun id => ⟨fun hi => ?_, (h4 id).2⟩⟩
  obtain ⟨T, e1, e2, e3⟩ := (h4 id).1 hi
  exact ⟨T, e1, e2, e3.below hb e2⟩
theorem QuotaAt.up {w : World} {B B' q : Nat} {l : List Cls} {tpb : Int} (hB : B ≤ B') (t : QuotaAt w B q l tpb) : QuotaAt w B' q l tpb := by
  obtain ⟨h, A, c, f, hq, hh, h1, h2, h3, h4⟩ := t
  refine ⟨h, A, c, f, by omega, by omega, h1, h2.more hB, h3, fun id => ⟨fun hi => ?_, (h4 id).2⟩⟩
  obtain ⟨T, e1, e2, e3⟩ := (h4 id).1 hi
  exact ⟨T, e1, by omega, e3⟩
def QNewOk (l : List Cls) (tpb : Int) (w : World) (e : Ending) (w' : World) : Prop :=
  (quotaB l = false ∧ e = .returned (.tuple #[.pointer none, .int .i64 13]) ∧ Below w.heap.size w w') ∨
  (quotaB l = true ∧ tpbB tpb = false ∧ e = .returned (.tuple #[.pointer none, .int .i64 2]) ∧ Below w.heap.size w w') ∨
  (quotaB l = true ∧ tpbB tpb = true ∧ ∃ q, e = .returned (.tuple #[.pointer (some ⟨q, 0, none⟩), .int .i64 0]) ∧ QuotaAt w' w'.heap.size q l tpb ∧ w.heap.size ≤ q ∧ Below w.heap.size w w')
theorem quota_zero {l : List Cls} (h : quotaI l = 0) : quotaB l = true := by
  cases hq : quotaB l with
  | true => rfl
  | false => rw [quotaI_no hq] at h; cases h
set_option maxRecDepth 20000 in
set_option maxHeartbeats 2000000 in
theorem newq_c (T : Nat) (l : List Cls) (R : Tp.Tree l) (hs : ∀ c ∈ l, c.share < 18446744073709551616) (tpb : Int) (w : World) (hT : TreeAt w w.heap.size T l) :
    Calls Try.prog 6 #[.pointer (some ⟨T, 0, none⟩), .int .i64 tpb] w (QNewOk l tpb w) := by
  have h64 := R.le
  have hil := ids_len l
  have HCK := Lib.hid (qcheck_c T l R hs w hT)
  unfold RetI2 at HCK
  have HTu := Lib.hid (fun u (hu : Below w.heap.size w u) => (hT.below hu).up hu.size)
  have HR := Lib.hid R; have HS := Lib.hid hs
  clear hT hs R
  cases hq : quotaB l with
  | false =>
    have HQ := Lib.hid hq
    rw [quotaI_no hq] at HCK
    clear hq
    go_enter Try.func6, Try.ntmps6
    go_wp2_with (go_at_call 7; (with_reducible refine (HCK.out).mono ?_); rintro e w1 ⟨rfl, hb1⟩; have HB1 := Lib.hid hb1; clear hb1)
    go_ret2
    exact .inl ⟨HQ.out, rfl, HB1.out⟩
  | true =>
    have HQ := Lib.hid hq
    rw [quotaI_yes hq] at HCK
    clear hq
    have HLV := Lib.hid (fun u (hu : TreeAt u u.heap.size T l) => tleaves_c T l HR.out u hu)
    have HID := Lib.hid (fun u (hu : TreeAt u u.heap.size T l) => tids_c T l h64 u hu)
    unfold ListOk at HLV HID
    have hmm := @run_makeMap Try.prog
    go_enter Try.func6, Try.ntmps6
    go_upto_region 4 with (go_at_call 7; (with_reducible refine (HCK.out).mono ?_); rintro e w1 ⟨rfl, hb1⟩; have HB1 := Lib.hid hb1; clear hb1)
    have hw1 := HB1.out.size
    have hM0 := heap_alloc_new w1 (.map #[] 0)
    have hBM : Below w.heap.size w (w1.alloc (.map #[] 0)) := HB1.out.alloc hw1 _
    have HM0 := Lib.hid hM0; have HBM := Lib.hid hBM
    clear hM0 hBM HCK
    go_upto_region 5 with (go_at_call 29; (with_reducible refine (HLV.out _ (HTu.out _ HBM.out)).mono ?_); rintro e w2 ⟨A2, c2, rfl, hs2, hb2⟩; have HS2 := Lib.hid hs2; have HB2 := Lib.hid hb2; clear hs2 hb2)
    have hHQ := heap_alloc_new w2 (.cells #[.map (some w1.heap.size), .slice A2 (leavesS l).length c2] 63)
    have hw2 := HB2.out.size
    have hsz1 : (w1.alloc (.map #[] 0)).heap.size = w1.heap.size + 1 := by simp
    have hmq : (w2.alloc (.cells #[.map (some w1.heap.size), .slice A2 (leavesS l).length c2] 63)).heap[w1.heap.size]? = some (.map #[] 0) := (Below.heap_alloc w2 _ _ (by omega)).trans ((HB2.out.block _ (by omega)).trans HM0.out)
    have hmq2 : w2.heap[w1.heap.size]? = some (.map #[] 0) := (HB2.out.block _ (by omega)).trans HM0.out
    have hBq : Below w.heap.size w (w2.alloc (.cells #[.map (some w1.heap.size), .slice A2 (leavesS l).length c2] 63)) := (HBM.out.trans (HB2.out.mono HBM.out.size)).alloc (by omega) _
    have hW2 : ∀ b, b < w2.heap.size → (w2.alloc (.cells #[.map (some w1.heap.size), .slice A2 (leavesS l).length c2] 63)).heap[b]? = w2.heap[b]? := fun b hb => Below.heap_alloc w2 _ _ hb
    have hzq : (w2.alloc (.cells #[.map (some w1.heap.size), .slice A2 (leavesS l).length c2] 63)).heap.size = w2.heap.size + 1 := by simp
    generalize World.alloc w2 _ = Wq at *
    obtain ⟨h, hh⟩ : ∃ h, h = w1.heap.size := ⟨_, rfl⟩
    rw [← hh] at hHQ hmq hmq2 hsz1 hw1 ⊢
    have hh2 : h < w2.heap.size := by omega
    have HHQ := Lib.hid hHQ; have HMQ := Lib.hid hmq; have HBQ := Lib.hid hBq; have HW2 := Lib.hid hW2; have HM2 := Lib.hid hmq2
    clear hHQ hmq hBq hW2 hmq2 HM0 HB2 HBM HB1 hh
    go_upto_region 6 with (go_at_call 21; (with_reducible refine (HID.out _ (HTu.out _ HBQ.out)).mono ?_); rintro e w3 ⟨A3, c3, rfl, hs3, hb3⟩; have HS3 := Lib.hid hs3; have HB3 := Lib.hid hb3; clear hs3 hb3)
    have hw3 := HB3.out.size
    have hM3 : w3.heap[h]? = some (.map #[] 0) := (HB3.out.block _ (by omega)).trans HMQ.out
    have HM3 := Lib.hid hM3
    have HQ3 := Lib.hid ((HB3.out.block w2.heap.size (by omega)).trans HHQ.out)
    have HBW3 := Lib.hid (HBQ.out.trans (HB3.out.mono HBQ.out.size))
    have HS23 := Lib.hid (sl_apart HS2.out ⟨_, _, HM2.out⟩ (fun b hb hne => (HB3.out.block b (by omega)).trans (HW2.out b hb)))
    have hwW := HBW3.out.size
    have HMEM := Lib.hid (fun (i : Int) (h : i ∈ ids (sortC l)) => (sort_ids i).1 h)
    have HEQ := Lib.hid (fun (i : Int) => sort_ids (l := l) i)
    have HSP := Lib.hid (fun u (hu : Below w.heap.size w u) i hi => spare_c T l HR.out HS.out i hi u (HTu.out u hu))
    obtain ⟨zs, hzs⟩ : ∃ zs, zs = ids (sortC l) := ⟨_, rfl⟩
    rw [← hzs] at HS3 HMEM HEQ hil
    have hzl : zs.length ≤ 64 := by omega
    have hw23 : w2.heap.size < w3.heap.size := by omega
    clear hM3 hzs HBQ HHQ HMQ HW2 HB3 HID HLV hzq hw2 HM2
    obtain ⟨qb, hqb⟩ : ∃ q, q = tpbB tpb := ⟨_, rfl⟩
    have HTB := Lib.hid hqb
    cases qb with
    | false =>
      have hne := HR.out.ne
      go_loopg [27] 0 (fun kx s27 wr => s27 = .int .i64 0 ∧ wr = w3)
      case atStart => exact ⟨rfl, rfl⟩
      case round =>
        obtain ⟨rfl, rfl⟩ := hrel
        have hltz : (0 : Int) < (zs.length : Int) := by omega
        obtain ⟨a, v, rfl, hab, hv, hc⟩ := HS3.out.cell1 (k := 0) (by omega)
        unfold St.I at hv
        simp only [List.getElem?_map] at hv
        obtain ⟨y, hy0, rfl⟩ := Option.map_eq_some_iff.1 hv
        have hyi := HMEM.out y (List.mem_of_getElem? hy0)
        have HSY := Lib.hid (HSP.out wr HBW3.out y hyi)
        have hrt : rateI tpb (uAt l y : Int) = false := by rw [rate_tpb (uAt_pos HR.out hyi) (uAt_le HS.out y), ← hqb]
        have HNT := Lib.hid (fun u => newtab_c tpb (uAt l y : Int) u)
        unfold NewTab at HNT
        have HRT := Lib.hid hrt
        clear hv hy0 hyi hqb hrt
        generalize spareS l y = sp at *
        generalize uAt l y = uy at *
        have hc0 : wr.cell? a = some (.int .i64 y) := by have := hc; rwa [show a.add 0 = a from by unfold Addr.add; simp] at this
        go_wp2_with (first
          | (go_at_call 30; (with_reducible refine (HSY.out).mono ?_); rintro e w4 ⟨rfl, hb4⟩; have HB4 := Lib.hid hb4; clear hb4)
          | (go_at_call 31; (with_reducible refine (HNT.out _).mono ?_); rintro e w5 (⟨_, rfl, hb5⟩ | ⟨hn, _⟩); rotate_left; exact absurd hn (by rw [HRT.out]; decide); have HB5 := Lib.hid (HB4.out.trans (hb5.mono HB4.out.size)); clear hb5))
        go_ret2
        exact .inr (.inl ⟨HQ.out, HTB.out.symm, rfl, HBW3.out.trans (HB5.out.mono hwW)⟩)
    | true =>
      go_loopg [27] zs.length (fun kx s27 wr => ∃ (k : Nat) (f : Int → Option Rw), s27 = .int .i64 k ∧ k ≤ zs.length ∧ zs.length - k ≤ kx ∧ Hid (At Rw.val Rw.enc Rw.nil Try.prog 3 wr h k f) ∧ Hid (Rows wr h l tpb (zs.take k) f) ∧ Hid (wr.heap[w2.heap.size]? = some (.cells #[.map (some h), .slice A2 (leavesS l).length c2] 63 (0, 0))) ∧
        Hid (∀ b, b < w3.heap.size → b ≠ h → wr.heap[b]? = w3.heap[b]?) ∧ w3.heap.size ≤ wr.heap.size ∧ Hid (Below w.heap.size w wr))
      case atStart => exact ⟨0, fun _ => none, rfl, by omega, by omega, Lib.hid (At.made_block HM3.out), Lib.hid (Rows.nil _ _ _ _), HQ3, Lib.hid (fun _ _ _ => rfl), Nat.le_refl _, HBW3⟩
      case round =>
        obtain ⟨k, f, rfl, hk, hkx, HA, HRW, HQB, HK, hws, HW⟩ := hrel
        have hwz := HW.out.size
        have HS3r := Lib.hid (sl_apart HS3.out ⟨_, _, HM3.out⟩ HK.out)
        by_cases hlt : k < zs.length
        · have hltz : (k : Int) < (zs.length : Int) := by omega
          obtain ⟨a, v, rfl, hab, hv, hc⟩ := HS3r.out.cell1 (k := k) hlt
          unfold St.I at hv
          simp only [List.getElem?_map] at hv
          obtain ⟨y, hy0, rfl⟩ := Option.map_eq_some_iff.1 hv
          have hyi := HMEM.out y (List.mem_of_getElem? hy0)
          have hyp := ids_pos HR.out.good hyi
          have hwfy : (Lit.int .i64 y).wf = true := wf_id (i := y) (by omega)
          have HSY := Lib.hid (HSP.out wr HW.out y hyi)
          have hrt : rateI tpb (uAt l y : Int) = true := by rw [rate_tpb (uAt_pos HR.out hyi) (uAt_le HS.out y), ← hqb]
          have HNT := Lib.hid (fun u => newtab_c tpb (uAt l y : Int) u)
          unfold NewTab at HNT
          have HRT := Lib.hid hrt
          have HTK := Lib.hid (show zs.take (k + 1) = zs.take k ++ [y] by rw [List.take_add_one, hy0]; rfl)
          have HPUT := Lib.hid (fun (u u' : World) (r : Rows u h l tpb (zs.take k) f) (hg : u.grownBy u' (some h)) (X : Nat) (h1 : h < X) (h2 : X < u.heap.size) (h3 : Row u X 90 (tabS tpb (uAt l y))) => r.put hg h1 h2 h3)
          clear hv hy0 hyi hyp hqb hrt
          generalize hsp : spareS l y = sp at *
          generalize huy : uAt l y = uy at *
          clear hsp huy
          go_upto_region 12 with (first
            | (go_at_call 30; (with_reducible refine (HSY.out).mono ?_); rintro e w4 ⟨rfl, hb4⟩; have HB4 := Lib.hid hb4; clear hb4)
            | (go_at_call 31; (with_reducible refine (HNT.out _).mono ?_); rintro e w5 (⟨hn, _⟩ | ⟨_, X, rfl, hX, hXl, hb5⟩); exact absurd hn (by rw [HRT.out]; decide); have HX := Lib.hid hX; have HB5 := Lib.hid (HB4.out.trans (hb5.mono HB4.out.size)); have HB4s := HB4.out.size; clear hb5))
          have hq5 := (HB5.out.block w2.heap.size (by omega)).trans HQB.out
          have hXw := HX.out.lt
          have HQ5 := Lib.hid hq5
          have HA5 := Lib.hid (HA.out.block (w' := w5) (HB5.out.block h (by omega)))
          have HR5 := Lib.hid (HRW.out.below HB5.out)
          have c0 : w5.cell? ⟨w2.heap.size, 0, none⟩ = some (.map (some h)) := cells_at hq5 0 _ rfl
          have HXh : h < X := by omega
          have h5 := HB5.out.size
          clear hq5 hc
          go_wp2_with (refine wpList_put rw_kind (by rfl) _ _ _ 61 (by rfl) 3 70 Try.underlying3 Try.underlying61 Rw.nil h k f _ (by rfl) HA5.out (by omega) y ⟨uy, sp, some X⟩ (by rfl) (by rfl) hwfy ?_; intro w7 hm7 hg7; have HM7 := Lib.hid hm7; have HG7 := Lib.hid hg7; clear hm7 hg7)
          go_roundg (zs.length - (k + 1))
          case measure => omega
          case rel =>
            have h7 := HG7.out.size
            exact ⟨k + 1, _, by go_num, by omega, by omega, HM7, Lib.hid (by rw [HTK.out]; exact HPUT.out w5 w7 HR5.out HG7.out X HXh hXw HX.out), Lib.hid ((HG7.out.block w2.heap.size (by omega) (fun e => by injection e with e; omega)).trans HQ5.out),
              Lib.hid (fun b hb hne => (HG7.out.block b (by omega) (fun e => hne (by injection e))).trans ((HB5.out.block b (by omega)).trans (HK.out b hb hne))), by omega, Lib.hid ((HW.out.trans (HB5.out.mono hwz)).grown HG7.out (by omega) (fun q hq => by injection hq with hq; omega))⟩
        · have hltz : ¬ (k : Int) < (zs.length : Int) := by omega
          obtain rfl : k = zs.length := by omega
          have hrt := HRW.out
          rw [List.take_length] at hrt
          have HRT := Lib.hid hrt
          clear hrt
          go_wp2
          go_ret2
          refine .inr (.inr ⟨HQ.out, HTB.out.symm, w2.heap.size, rfl, ?_, by omega, HW.out⟩)
          refine ⟨h, A2, c2, f, by omega, by omega, HQB.out, (sl_apart HS23.out ⟨_, _, HM3.out⟩ (fun b hb hne => HK.out b (by omega) hne)).more (by omega), HA.out.more hzl, fun id => ⟨fun hi => ?_, fun hn => (HRT.out id).2 (fun h1 => hn ((HEQ.out id).1 h1))⟩⟩
          obtain ⟨X, e1, e2, e3, e4⟩ := (HRT.out id).1 ((HEQ.out id).2 hi)
          exact ⟨X, e1, e3, e4⟩
end Go.Proofs.Ytdankjhjmaehiaa.Qu

/- What a quota tells: of a class; of all leaves. -/
namespace Go.Proofs.Ytdankjhjmaehiaa.Qu
open Go.RowKit Go.Maps Go.Proofs.Ytdankjhjmaehiaa.Fl Go.Proofs.Ytdankjhjmaehiaa.Wd Go.Proofs.Ytdankjhjmaehiaa.Li Go.Proofs.Ytdankjhjmaehiaa.Mp Go.Proofs.Ytdankjhjmaehiaa.Tp Go.Proofs.Ytdankjhjmaehiaa.Tr Go.Proofs.Ytdankjhjmaehiaa.Cl Go.Proofs.Ytdankjhjmaehiaa.So Go.Proofs.Ytdankjhjmaehiaa.Sw
attribute [local go_sem] run_store_float

theorem zrow (w : World) : (zeroValue 70).run Try.prog w = .ok (Rw.val Rw.nil) w := by kernel_rfl
/-- what a quota has for a class -/
def RowOk (w : World) (l : List Cls) (tpb : Int) (id : Int) (r : Rw) : Prop :=
  (id ∈ ids l → ∃ T, r = ⟨uAt l id, spareS l id, some T⟩ ∧ T < w.heap.size ∧ Row w T 90 (tabS tpb (uAt l id))) ∧ (id ∉ ids l → r = Rw.nil)
set_option maxRecDepth 20000 in
set_option maxHeartbeats 1000000 in
theorem qat_c (q : Nat) (l : List Cls) (tpb id : Int) (hid : (Lit.int .i64 id).wf = true) (w : World) (hQ : QuotaAt w w.heap.size q l tpb) :
    Calls Try.prog 32 #[.pointer (some ⟨q, 0, none⟩), .int .i64 id] w fun e w' => ∃ r : Rw, e = .returned r.val ∧ Below w.heap.size w w' ∧ RowOk w l tpb id r := by
  obtain ⟨h, A, c, f, hq, hh, h1, _, hm, hr⟩ := hQ
  have hb0 : Below w.heap.size w (w.alloc (.cells #[.int .i64 0, .int .i64 0, .pointer none] 70)) := (Below.refl _ w).alloc (Nat.le_refl _) _
  have hh0 := heap_alloc_new w (.cells #[.int .i64 0, .int .i64 0, .pointer none] 70)
  have hs0 : (w.alloc (.cells #[.int .i64 0, .int .i64 0, .pointer none] 70)).heap.size = w.heap.size + 1 := by simp
  have hQ1 := (hb0.block _ hq).trans h1
  have hm1 := hm.below hb0 hh
  generalize hw1 : World.alloc w _ = w1 at *
  have t0 := cells_at hQ1 0 _ rfl
  have hlook := hm1.look rw_kind Try.underlying3 Try.underlying61 (zrow w1) hid
  obtain ⟨r, hrd⟩ : ∃ r, r = (f id).getD Rw.nil := ⟨_, rfl⟩
  have HRO := Lib.hid (show RowOk w l tpb id r from ⟨fun hi => by
    obtain ⟨T, e1, e2, e3⟩ := (hr id).1 hi
    exact ⟨T, by rw [hrd, e1]; rfl, e2, e3⟩, fun hn => by rw [hrd, (hr id).2 hn]; rfl⟩)
  rw [← hrd] at hlook
  have HV := Lib.hid (show r.val = .agg #[.int .i64 r.u, .int .i64 r.s, .pointer (r.t.map fun b => ⟨b, 0, none⟩)] from rfl)
  rw [HV.out] at hlook
  generalize hp : r.t.map (fun b => (⟨b, 0, none⟩ : Addr)) = p at *
  have HB0 := Lib.hid hb0; have HH0 := Lib.hid hh0; have HW1 := Lib.hid hw1; have HS0 := Lib.hid hs0
  clear hm hm1 hQ1 hb0 hh0 hs0 hr h1 hrd hp
  clear hw1
  go_enter Try.func32, Try.ntmps32
  go_upto_region 3 with fail
  rw [HW1.out]
  go_wp2_with (first | (refine wpList_store_whole (by rfl) 70 _ _ (by rfl) 3 Try.sizeOf70 w.heap.size _ _ 70 (by rfl) (by rfl) HH0.out (by rfl) (by rfl) (by simp [Value.oneCell']) ?_; intro w5 hb5 hg5; have r0 := cells_at hb5 0 _ rfl; have r1 := cells_at hb5 1 _ rfl; have r2 := cells_at hb5 2 _ rfl; have HG5 := Lib.hid hg5; clear hb5 hg5))
  (try simp only [Exit.inBlock, Exit.then])
  refine bodyPost_ret (v := .agg #[.int .i64 r.u, .int .i64 r.s, .pointer p]) (by simp [results, Try.results32, go_sem, r0, r1, r2]) rfl ?_
  exact ⟨r, by rw [HV.out], HB0.out.grown HG5.out (by have := HS0.out; omega) (fun q hq => by injection hq; omega), HRO.out⟩
end Go.Proofs.Ytdankjhjmaehiaa.Qu

/- A quota's methods. -/
namespace Go.Proofs.Ytdankjhjmaehiaa.Qu
open Go.RowKit Go.Maps Go.Proofs.Ytdankjhjmaehiaa.Fl Go.Proofs.Ytdankjhjmaehiaa.Wd Go.Proofs.Ytdankjhjmaehiaa.Li Go.Proofs.Ytdankjhjmaehiaa.Mp Go.Proofs.Ytdankjhjmaehiaa.Tp Go.Proofs.Ytdankjhjmaehiaa.Tr Go.Proofs.Ytdankjhjmaehiaa.Cl Go.Proofs.Ytdankjhjmaehiaa.So Go.Proofs.Ytdankjhjmaehiaa.Sw
attribute [local go_sem] run_store_float

/-- the pointer is a quota's over l, or nil -/
def QuotaV (w : World) (B : Nat) (v : Value) (l : List Cls) (tpb : Int) : Prop := (v = .pointer none ∧ l = []) ∨ ∃ q, v = .pointer (some ⟨q, 0, none⟩) ∧ QuotaAt w B q l tpb
theorem QuotaV.below {w w' : World} {B : Nat} {v : Value} {l : List Cls} {tpb : Int} (hb : Below B w w') (t : QuotaV w B v l tpb) : QuotaV w' B v l tpb := by
  rcases t with h | ⟨q, e, h⟩
  · exact .inl h
  · exact .inr ⟨q, e, h.below hb⟩
theorem QuotaV.up {w : World} {B B' : Nat} {v : Value} {l : List Cls} {tpb : Int} (hB : B ≤ B') (t : QuotaV w B v l tpb) : QuotaV w B' v l tpb := by
  rcases t with h | ⟨q, e, h⟩
  · exact .inl h
  · exact .inr ⟨q, e, h.up hB⟩
theorem qat_none (id : Int) (w : World) : Calls Try.prog 32 #[.pointer none, .int .i64 id] w fun e w' => e = .returned (.agg #[.int .i64 0, .int .i64 0, .pointer none]) ∧ Below w.heap.size w w' := by
  have hh0 := heap_alloc_new w (.cells #[.int .i64 0, .int .i64 0, .pointer none] 70)
  have hB := (Below.refl w.heap.size w).alloc (Nat.le_refl _) (.cells #[.int .i64 0, .int .i64 0, .pointer none] 70)
  have HB := Lib.hid hB
  clear hh0 hB
  go_enter Try.func32, Try.ntmps32
  go_wp2
  (try simp only [Exit.inBlock, Exit.then])
  refine bodyPost_ret (v := .agg #[.int .i64 0, .int .i64 0, .pointer none]) (by simp [results, Try.results32, go_sem]) rfl ?_
  exact ⟨rfl, HB.out⟩
/-- at, whatever the quota -/
theorem vat_c (v : Value) (l : List Cls) (tpb id : Int) (hid : (Lit.int .i64 id).wf = true) (w : World) (hQ : QuotaV w w.heap.size v l tpb) :
    Calls Try.prog 32 #[v, .int .i64 id] w fun e w' => ∃ r : Rw, e = .returned r.val ∧ Below w.heap.size w w' ∧ RowOk w l tpb id r := by
  rcases hQ with ⟨rfl, rfl⟩ | ⟨q, rfl, h⟩
  · exact (qat_none id w).mono fun e w' ⟨h1, h2⟩ => ⟨Rw.nil, h1, h2, fun hi => (by cases hi), fun _ => rfl⟩
  · exact qat_c q l tpb id hid w h
/-- what is spare, nothing where there is no such class -/
def spQ (l : List Cls) (id : Int) : Int := if id ∈ ids l then spareS l id else 0
theorem row_u {w : World} {l : List Cls} {tpb id : Int} {r : Rw} (h : RowOk w l tpb id r) : r.u = (uAt l id : Int) := by
  by_cases hi : id ∈ ids l
  · obtain ⟨T, rfl, _⟩ := h.1 hi; rfl
  · rw [h.2 hi, uAt_none (at_none.2 hi)]; rfl
theorem row_s {w : World} {l : List Cls} {tpb id : Int} {r : Rw} (h : RowOk w l tpb id r) : r.s = spQ l id := by
  unfold spQ
  by_cases hi : id ∈ ids l
  · obtain ⟨T, rfl, _⟩ := h.1 hi; rw [if_pos hi]
  · rw [h.2 hi, if_neg hi]; rfl
@[go_sem] theorem row_0 (a b : Int) (c : Option Addr) (w : World) : (Instr.field 70 (.agg #[.int .i64 a, .int .i64 b, .pointer c]) 0).run Try.prog w = .ok (.int .i64 a) w := by kernel_rfl
@[go_sem] theorem row_1 (a b : Int) (c : Option Addr) (w : World) : (Instr.field 70 (.agg #[.int .i64 a, .int .i64 b, .pointer c]) 1).run Try.prog w = .ok (.int .i64 b) w := by kernel_rfl
@[go_sem] theorem row_2 (a b : Int) (c : Option Addr) (w : World) : (Instr.field 70 (.agg #[.int .i64 a, .int .i64 b, .pointer c]) 2).run Try.prog w = .ok (.pointer c) w := by kernel_rfl
/-- at, in parts -/
def AtOk (l : List Cls) (tpb id : Int) (w : World) (e : Ending) (w' : World) : Prop := ∃ p, e = .returned (.agg #[.int .i64 (uAt l id : Int), .int .i64 (spQ l id), .pointer p]) ∧ Below w.heap.size w w' ∧
  (id ∈ ids l → ∃ T, p = some ⟨T, 0, none⟩ ∧ Row w' T 90 (tabS tpb (uAt l id))) ∧ (id ∉ ids l → p = none)
theorem vat2_c (v : Value) (l : List Cls) (tpb id : Int) (hid : (Lit.int .i64 id).wf = true) (w : World) (hQ : QuotaV w w.heap.size v l tpb) :
    Calls Try.prog 32 #[v, .int .i64 id] w (AtOk l tpb id w) :=
  (vat_c v l tpb id hid w hQ).mono fun e w' ⟨r, h1, h2, h3⟩ => ⟨r.t.map (fun b => ⟨b, 0, none⟩), by rw [h1, ← row_u h3, ← row_s h3]; rfl, h2, fun hi => by
    obtain ⟨T, e1, e2, e3⟩ := h3.1 hi
    exact ⟨T, by rw [e1]; rfl, e3.below h2 e2⟩, fun hn => by rw [h3.2 hn]; rfl⟩
set_option maxRecDepth 20000 in
set_option maxHeartbeats 1000000 in
theorem qunits_c (v : Value) (l : List Cls) (tpb id : Int) (hid : (Lit.int .i64 id).wf = true) (w : World) (hQ : QuotaV w w.heap.size v l tpb) :
    Calls Try.prog 8 #[v, .int .i64 id] w fun e w' => e = .returned (.int .i64 (uAt l id : Int)) ∧ Below w.heap.size w w' := by
  have HA := Lib.hid (vat2_c v l tpb id hid w hQ)
  unfold AtOk at HA
  clear hQ
  go_enter Try.func8, Try.ntmps8
  go_wp2_with (go_at_call 32; (with_reducible refine (HA.out).mono ?_); rintro e w1 ⟨p, rfl, hb1, _⟩; have HB1 := Lib.hid hb1; clear hb1)
  go_ret
  exact ⟨rfl, HB1.out⟩
set_option maxRecDepth 20000 in
set_option maxHeartbeats 1000000 in
theorem qspare_c (v : Value) (l : List Cls) (tpb id : Int) (hid : (Lit.int .i64 id).wf = true) (w : World) (hQ : QuotaV w w.heap.size v l tpb) :
    Calls Try.prog 9 #[v, .int .i64 id] w fun e w' => e = .returned (.int .i64 (spQ l id)) ∧ Below w.heap.size w w' := by
  have HA := Lib.hid (vat2_c v l tpb id hid w hQ)
  unfold AtOk at HA
  clear hQ
  go_enter Try.func9, Try.ntmps9
  go_wp2_with (go_at_call 32; (with_reducible refine (HA.out).mono ?_); rintro e w1 ⟨p, rfl, hb1, _⟩; have HB1 := Lib.hid hb1; clear hb1)
  go_ret
  exact ⟨rfl, HB1.out⟩
set_option maxRecDepth 20000 in
set_option maxHeartbeats 1000000 in
theorem qpart_c (v : Value) (l : List Cls) (hs : ∀ c ∈ l, c.share < 18446744073709551616) (tpb id : Int) (hid : (Lit.int .i64 id).wf = true) (w : World) (hQ : QuotaV w w.heap.size v l tpb) :
    Calls Try.prog 13 #[v, .int .i64 id] w fun e w' => e = .returned (.float .f64 (fx (uAt l id))) ∧ Below w.heap.size w w' := by
  have HA := Lib.hid (qunits_c v l tpb id hid w hQ)
  have HO := Lib.hid (fun w => of_c (uAt l id) (uAt_le hs id) w)
  generalize uAt l id = u at *
  generalize fx u = z at *
  clear hQ
  go_enter Try.func13, Try.ntmps13
  go_wp2_with (first
    | (go_at_call 8; (with_reducible refine (HA.out).mono ?_); rintro e w1 ⟨rfl, hb1⟩; have HB1 := Lib.hid hb1; clear hb1)
    | (go_at_call 37; (with_reducible refine (HO.out _).mono ?_); rintro e w' ⟨rfl, n, rfl⟩))
  go_ret
  exact ⟨rfl, below_drewN HB1.out _⟩
theorem exact_no (tpb n : Int) : exactS tpb 0 n = 0 := by
  unfold exactS rateI
  have : decide ((1 : Int) ≤ 0) = false := by decide
  rw [this]; simp
set_option maxRecDepth 20000 in
set_option maxHeartbeats 1000000 in
theorem qtime_c (v : Value) (l : List Cls) (tpb id n : Int) (hid : (Lit.int .i64 id).wf = true) (w : World) (hQ : QuotaV w w.heap.size v l tpb) :
    Calls Try.prog 10 #[v, .int .i64 id, .int .i64 n] w fun e w' => e = .returned (.int .i64 (exactS tpb (uAt l id : Int) n : Int)) ∧ Below w.heap.size w w' := by
  have HA := Lib.hid (vat2_c v l tpb id hid w hQ)
  unfold AtOk at HA
  clear hQ
  by_cases hi : id ∈ ids l
  · have HI := Lib.hid hi
    clear hi
    have HT := Lib.hid (fun T u (h : Row u T 90 (tabS tpb (uAt l id : Int))) => time_c T tpb (uAt l id : Int) n u h)
    generalize exactS tpb (uAt l id : Int) n = x at *
    go_enter Try.func10, Try.ntmps10
    go_wp2_with (first
      | (go_at_call 32; (with_reducible refine (HA.out).mono ?_); rintro e w1 ⟨p, rfl, hb1, hro, _⟩; obtain ⟨T, rfl, hR⟩ := hro HI.out; have HRT := Lib.hid hR; have HB1 := Lib.hid hb1; clear hb1 hro hR)
      | (go_at_call 33; (with_reducible refine (HT.out T _ HRT.out).mono ?_); rintro e w2 ⟨rfl, hb2⟩; have HB2 := Lib.hid (HB1.out.trans (hb2.mono HB1.out.size)); clear hb2))
    go_ret
    exact ⟨rfl, HB2.out⟩
  · have HI := Lib.hid hi
    have HX := Lib.hid (show exactS tpb (uAt l id : Int) n = 0 by rw [uAt_none (at_none.2 hi)]; exact exact_no tpb n)
    clear hi
    have HT := Lib.hid (fun u => time_none n u)
    go_enter Try.func10, Try.ntmps10
    go_wp2_with (first
      | (go_at_call 32; (with_reducible refine (HA.out).mono ?_); rintro e w1 ⟨p, rfl, hb1, _, hro⟩; obtain rfl := hro HI.out; have HB1 := Lib.hid hb1; clear hb1 hro)
      | (go_at_call 33; (with_reducible refine (HT.out _).mono ?_); rintro e w2 ⟨rfl, rfl⟩))
    go_ret
    exact ⟨by rw [HX.out]; rfl, HB1.out⟩
end Go.Proofs.Ytdankjhjmaehiaa.Qu

/- The document's quotas. -/
namespace Go.Proofs.Ytdankjhjmaehiaa.Qu
open Go.RowKit Go.Maps Go.Proofs.Ytdankjhjmaehiaa.Fl Go.Proofs.Ytdankjhjmaehiaa.Wd Go.Proofs.Ytdankjhjmaehiaa.Li Go.Proofs.Ytdankjhjmaehiaa.Mp Go.Proofs.Ytdankjhjmaehiaa.Tp Go.Proofs.Ytdankjhjmaehiaa.Tr Go.Proofs.Ytdankjhjmaehiaa.Cl Go.Proofs.Ytdankjhjmaehiaa.So Go.Proofs.Ytdankjhjmaehiaa.Sw
attribute [local go_sem] run_store_float

set_option maxRecDepth 20000 in
set_option maxHeartbeats 1000000 in
theorem rqunits_c (A : Option Addr) (cap : Nat) (l : List Cls) (hs : ∀ c ∈ l, c.share < 18446744073709551616) (hlen : l.length ≤ 1048576) (id : Int) (w : World) (hI : Holds w.heap.size w (.slice A l.length cap) l) :
    Calls Try.prog 16 #[.slice A l.length cap, .int .i64 id] w fun e w' => e = .returned (.int .i64 (uAt l id : Int)) ∧ Below w.heap.size w w' := by
  have hfind := reffind_c A l.length cap w.heap.size l id hlen w hI
  rcases find_at (zs := l) (id := id) with ⟨hf, ha⟩ | ⟨i, c, hf, hc, ha⟩
  · have hfz : findC l id < 0 := hf
    have HU := Lib.hid (uAt_none ha)
    have HF := Lib.hid hfind
    clear hfind hf ha hI hs
    go_enter Try.func16, Try.ntmps16
    go_wp2_with (go_at_call 38; (with_reducible refine (HF.out).mono ?_); rintro e w9 ⟨rfl, hw9⟩; subst w9)
    go_ret
    exact ⟨by rw [HU.out]; rfl, Below.refl _ _⟩
  · have hil := (List.getElem?_eq_some_iff.1 hc).1
    obtain ⟨_, hcs⟩ := holds_parts hI
    obtain ⟨b, off, rfl, hb, hcc⟩ := hcs (by omega)
    have hh := hcc i c hc
    have c0 : w.cell? ⟨b, off + i * 11, none⟩ = some (.int .i64 c.id) := hh 0 _ rfl
    have c1 := hh 1 _ rfl; have c2 := hh 2 _ rfl; have c3 := hh 3 _ rfl; have c4 := hh 4 _ rfl; have c5 := hh 5 _ rfl; have c6 := hh 6 _ rfl; have c7 := hh 7 _ rfl; have c8 := hh 8 _ rfl; have c9 := hh 9 _ rfl; have c10 := hh 10 _ rfl
    have hilz : (i : Int) < (l.length : Int) := by omega
    have hfz : ¬ (i : Int) < 0 := by omega
    have hun := fun w => refunitsc_any c (hs c (at_mem ha).1) w
    rw [show (unitsS c.share).1 = uAt l id by rw [uAt_some ha]; rfl] at hun
    unfold Cls.agg Ret1 at hun
    have HF := Lib.hid hfind
    rw [hf] at HF
    have HU := Lib.hid hun
    generalize uAt l id = u at *
    clear hfind hf ha hI hs hcs hcc hc hh hun
    go_enter Try.func16, Try.ntmps16
    go_wp2_with (first
      | (go_at_call 38; (with_reducible refine (HF.out).mono ?_); rintro e w9 ⟨rfl, hw9⟩; subst w9)
      | (go_at_call 39; (with_reducible refine (HU.out _).mono ?_); rintro e w1 ⟨rfl, hb1⟩; have HB1 := Lib.hid hb1; clear hb1))
    go_ret
    exact ⟨rfl, HB1.out⟩
set_option maxRecDepth 20000 in
set_option maxHeartbeats 1000000 in
theorem rqspare_c (A : Option Addr) (cap : Nat) (l : List Cls) (G : Tp.Good l) (hs : ∀ c ∈ l, c.share < 18446744073709551616) (h64 : l.length ≤ 64) (id : Int) (w : World) (hI : Holds w.heap.size w (.slice A l.length cap) l) :
    Calls Try.prog 17 #[.slice A l.length cap, .int .i64 id] w fun e w' => e = .returned (.int .i64 (spareS l id)) ∧ Below w.heap.size w w' := by
  have hun := rqunits_c A cap l hs (by omega) id w hI
  have hul := uAt_le hs id
  have HSP := Lib.hid (show spareS l id = (uAt l id : Int) - (kidP l id l.length : Int) by unfold spareS; rw [kidP_all G])
  have HKP := Lib.hid (fun k => Nat.le_trans (kidP_le hs id k) (Nat.mul_le_mul_right _ h64))
  have HU := Lib.hid hun; have HI := Lib.hid hI; have HS := Lib.hid hs
  have HK0 : kidP l id 0 = 0 := rfl
  generalize spareS l id = sp at *
  generalize uAt l id = u at *
  clear hun hI hs G
  go_enter Try.func17, Try.ntmps17
  go_wp2_with (go_at_call 16; (with_reducible refine (HU.out).mono ?_); rintro e w1 ⟨rfl, hb1⟩; have HB1 := Lib.hid hb1; clear hb1)
  have hw1 := HB1.out.size
  go_loopg [5, 6] l.length (fun kx s5 s6 wr => ∃ k : Nat, s6 = .int .i64 k ∧ s5 = .int .i64 ((u : Int) - (kidP l id k : Int)) ∧ k ≤ l.length ∧ l.length - k ≤ kx ∧ Hid (Below w1.heap.size w1 wr))
  case atStart => exact ⟨0, rfl, by rw [HK0]; simp, by omega, by omega, Lib.hid (Below.refl _ _)⟩
  case round =>
    obtain ⟨k, rfl, rfl, hk, hkx, HW⟩ := hrel
    have hwz := HW.out.size
    have hkb := HKP.out k
    by_cases hlt : k < l.length
    · have hltz : (k : Int) < (l.length : Int) := by omega
      obtain ⟨c, hc⟩ : ∃ c, l[k]? = some c := ⟨_, List.getElem?_eq_getElem hlt⟩
      obtain ⟨_, hcs⟩ := holds_parts HI.out
      obtain ⟨b, off, rfl, hb, hcc⟩ := hcs (by omega)
      have hh : ∀ (i : Nat) (v : Value), c.cells[i]? = some v → wr.cell? ⟨b, off + k * 11 + i, none⟩ = some v := fun i v hv => ((HB1.out.trans (HW.out.mono hw1)).cell (p := ⟨b, off + k * 11 + i, none⟩) hb).trans (hcc k c hc i v hv)
      have c0 : wr.cell? ⟨b, off + k * 11, none⟩ = some (.int .i64 c.id) := hh 0 _ rfl
      have c1 := hh 1 _ rfl; have c2 := hh 2 _ rfl; have c3 := hh 3 _ rfl; have c4 := hh 4 _ rfl; have c5 := hh 5 _ rfl; have c6 := hh 6 _ rfl; have c7 := hh 7 _ rfl; have c8 := hh 8 _ rfl; have c9 := hh 9 _ rfl; have c10 := hh 10 _ rfl
      have hkb1 := HKP.out (k + 1)
      by_cases hp : c.parent = id
      · have hpz : (c.parent == id) = true := by simp [hp]
        by_cases h0 : id = 0
        · have h0z : (id != 0) = false := by simp [h0]
          have HKN := Lib.hid (kidP_out (id := id) hc (.inr h0))
          clear hp h0 hh hcs hcc hc
          go_wp2_with fail
          go_roundg (l.length - (k + 1))
          case measure => omega
          case rel => exact ⟨k + 1, by go_num, by rw [HKN.out], by omega, by omega, HW⟩
        · have h0z : (id != 0) = true := by simp [h0]
          have hks := kidP_in (id := id) hc hp h0
          have HKN := Lib.hid hks
          have hun := fun w => refunitsc_any c (HS.out c (List.mem_of_getElem? hc)) w
          rw [show (unitsS c.share).1 = uOf c from rfl] at hun
          unfold Cls.agg Ret1 at hun
          have HUC := Lib.hid hun
          have hcl := uOf_le c (HS.out c (List.mem_of_getElem? hc))
          generalize uOf c = uc at *
          rw [hks] at hkb1
          generalize kidP l id k = ke at *
          clear hp h0 hh hcs hcc hc hun hks
          go_wp2_with (go_at_call 39; (with_reducible refine (HUC.out _).mono ?_); rintro e w2 ⟨rfl, hb2⟩; have HB2 := Lib.hid hb2; clear hb2)
          go_roundg (l.length - (k + 1))
          case measure => omega
          case rel => exact ⟨k + 1, by go_num, by rw [HKN.out]; go_num, by omega, by omega, Lib.hid (HW.out.trans (HB2.out.mono hwz))⟩
      · have hpz : (c.parent == id) = false := by simp [hp]
        have HKN := Lib.hid (kidP_out (id := id) hc (.inl hp))
        clear hp hh hcs hcc hc
        go_wp2_with fail
        go_roundg (l.length - (k + 1))
        case measure => omega
        case rel => exact ⟨k + 1, by go_num, by rw [HKN.out], by omega, by omega, HW⟩
    · have hltz : ¬ (k : Int) < (l.length : Int) := by omega
      obtain rfl : k = l.length := by omega
      go_wp2
      go_ret
      exact ⟨by rw [HSP.out]; rfl, HB1.out.trans (HW.out.mono hw1)⟩
def fineL (l : List Cls) (k : Nat) : Prop := ∀ c ∈ l.take k, 0 ≤ spareS l c.id
theorem fineL_all {l : List Cls} (h : fineL l l.length) : quotaB l = true := by
  unfold fineL at h
  rw [List.take_length] at h
  refine List.all_eq_true.2 fun i hi => decide_eq_true ?_
  obtain ⟨c, hc, rfl⟩ := List.mem_map.1 hi
  exact h c hc
set_option maxRecDepth 20000 in
set_option maxHeartbeats 1000000 in
theorem rqcheck_c (A : Option Addr) (cap : Nat) (l : List Cls) (G : Tp.Good l) (hs : ∀ c ∈ l, c.share < 18446744073709551616) (h64 : l.length ≤ 64) (w : World) (hI : Holds w.heap.size w (.slice A l.length cap) l) :
    Calls Try.prog 15 #[.slice A l.length cap] w (RetI2 (quotaI l) w) := by
  have HSP := Lib.hid (fun u (hu : Below w.heap.size w u) id => rqspare_c A cap l G hs h64 id u (holds_next hI hu))
  have HI := Lib.hid hI
  have HALL := Lib.hid (fun (h : fineL l l.length) => quotaI_yes (fineL_all h))
  have HNOT := Lib.hid (fun (c : Cls) (hc : c ∈ l) (h : spareS l c.id < 0) => quotaI_no (fine_not (List.mem_map.2 ⟨c, hc, rfl⟩) h))
  have HF0 := Lib.hid (show fineL l 0 from fun i hi => by simp at hi)
  have HFS := Lib.hid (fun (k : Nat) (c : Cls) (h : l[k]? = some c) (hf : fineL l k) (hy : 0 ≤ spareS l c.id) => (show fineL l (k + 1) from fun i hi => by
    rw [List.take_add_one, h] at hi
    rcases List.mem_append.1 hi with h1 | h1
    · exact hf i h1
    · simp at h1; subst h1; exact hy))
  clear hI hs G
  unfold RetI2
  go_enter Try.func15, Try.ntmps15
  go_wp2
  go_loopg [3] l.length (fun kx s3 wr => ∃ k : Nat, s3 = .int .i64 k ∧ k ≤ l.length ∧ l.length - k ≤ kx ∧ Hid (fineL l k) ∧ Hid (Below w.heap.size w wr))
  case atStart => exact ⟨0, rfl, by omega, by omega, HF0, Lib.hid (Below.refl _ _)⟩
  case round =>
    obtain ⟨k, rfl, hk, hkx, HF, HW⟩ := hrel
    have hwz := HW.out.size
    by_cases hlt : k < l.length
    · have hltz : (k : Int) < (l.length : Int) := by omega
      obtain ⟨c, hc⟩ : ∃ c, l[k]? = some c := ⟨_, List.getElem?_eq_getElem hlt⟩
      obtain ⟨_, hcs⟩ := holds_parts HI.out
      obtain ⟨b, off, rfl, hb, hcc⟩ := hcs (by omega)
      have c0 : wr.cell? ⟨b, off + k * 11, none⟩ = some (.int .i64 c.id) := (HW.out.cell (p := ⟨b, off + k * 11 + 0, none⟩) hb).trans (hcc k c hc 0 _ rfl)
      have HS := Lib.hid (HSP.out wr HW.out c.id)
      have HFN := Lib.hid (HFS.out k c hc HF.out)
      have HN := Lib.hid (HNOT.out c (List.mem_of_getElem? hc))
      clear hcs hcc hc
      generalize spareS l c.id = sp at *
      by_cases hneg : sp < 0
      · have HQ := Lib.hid (HN.out hneg)
        go_wp2_with (go_at_call 17; (with_reducible refine (HS.out).mono ?_); rintro e w2 ⟨rfl, hb2⟩; have HB2 := Lib.hid hb2; clear hb2)
        go_ret
        exact ⟨by rw [HQ.out]; rfl, HW.out.trans (HB2.out.mono hwz)⟩
      · have HP := Lib.hid (show 0 ≤ sp by omega)
        go_wp2_with (go_at_call 17; (with_reducible refine (HS.out).mono ?_); rintro e w2 ⟨rfl, hb2⟩; have HB2 := Lib.hid hb2; clear hb2)
        go_roundg (l.length - (k + 1))
        case measure => omega
        case rel => exact ⟨k + 1, by go_num, by omega, by omega, Lib.hid (HFN.out HP.out), Lib.hid (HW.out.trans (HB2.out.mono hwz))⟩
    · have hltz : ¬ (k : Int) < (l.length : Int) := by omega
      obtain rfl : k = l.length := by omega
      have HQ := Lib.hid (HALL.out HF.out)
      go_wp2
      go_ret
      exact ⟨by rw [HQ.out]; rfl, HW.out⟩
set_option maxRecDepth 20000 in
set_option maxHeartbeats 1000000 in
theorem rqtime_c (A : Option Addr) (cap : Nat) (l : List Cls) (hs : ∀ c ∈ l, c.share < 18446744073709551616) (hlen : l.length ≤ 1048576) (tpb id n : Int) (hn : (Lit.int .i64 n).wf = true) (w : World) (hI : Holds w.heap.size w (.slice A l.length cap) l) :
    Calls Try.prog 19 #[.slice A l.length cap, .int .i64 tpb, .int .i64 id, .int .i64 n] w fun e w' => e = .returned (.int .i64 (exactS tpb (uAt l id : Int) n : Int)) ∧ Below w.heap.size w w' := by
  have HU := Lib.hid (rqunits_c A cap l hs hlen id w hI)
  have HX := Lib.hid (fun u => refexact_c tpb (uAt l id : Int) n hn u)
  generalize exactS tpb (uAt l id : Int) n = x at *
  generalize uAt l id = u at *
  clear hI hs
  go_enter Try.func19, Try.ntmps19
  go_wp2_with (first
    | (go_at_call 16; (with_reducible refine (HU.out).mono ?_); rintro e w1 ⟨rfl, hb1⟩; have HB1 := Lib.hid hb1; clear hb1)
    | (go_at_call 40; (with_reducible refine (HX.out _).mono ?_); rintro e w' ⟨rfl, rfl⟩))
  go_ret
  exact ⟨rfl, HB1.out⟩
end Go.Proofs.Ytdankjhjmaehiaa.Qu

/- What all leaves have together. -/
namespace Go.Proofs.Ytdankjhjmaehiaa.Qu
open Go.RowKit Go.Maps Go.Proofs.Ytdankjhjmaehiaa.Fl Go.Proofs.Ytdankjhjmaehiaa.Wd Go.Proofs.Ytdankjhjmaehiaa.Li Go.Proofs.Ytdankjhjmaehiaa.Mp Go.Proofs.Ytdankjhjmaehiaa.Tp Go.Proofs.Ytdankjhjmaehiaa.Tr Go.Proofs.Ytdankjhjmaehiaa.Cl Go.Proofs.Ytdankjhjmaehiaa.So Go.Proofs.Ytdankjhjmaehiaa.Sw
attribute [local go_sem] run_store_float

theorem infoF : (Try.prog.info? 35).map (fun i => (i.zero, i.size, i.bytes)) = some (some (.float .f64 0), 1, 8) := by kernel_rfl
/-- the units of all leaves -/
def leafU (l : List Cls) : List Nat := (leavesS l).map (uAt l)
theorem leafU_len (l : List Cls) : (leafU l).length = (leavesS l).length := List.length_map _
theorem leafU_at {l : List Cls} {k : Nat} {y : Int} (h : (leavesS l)[k]? = some y) : (leafU l).take (k + 1) = (leafU l).take k ++ [uAt l y] := by
  unfold leafU
  rw [List.take_add_one, List.getElem?_map, h]; rfl
theorem leaves_le {l : List Cls} (h64 : l.length ≤ 64) : (leavesS l).length ≤ 64 := Nat.le_trans (Nat.le_trans (List.length_filter_le _ _) (by rw [ids_len]; exact Nat.le_refl _)) h64
theorem leafU_sum {l : List Cls} (hs : ∀ c ∈ l, c.share < 18446744073709551616) (h64 : l.length ≤ 64) : (leafU l).sum ≤ 67108864 := by
  have h1 := sum_le (uAt l) 1048576 (leavesS l) (fun z _ => uAt_le hs z)
  have h2 : (leavesS l).length * 1048576 ≤ 64 * 1048576 := Nat.mul_le_mul_right _ (leaves_le h64)
  unfold leafU
  omega
theorem FX_snoc (a : List Nat) (u : Nat) : FX a ++ [.float .f64 (fx u)] = FX (a ++ [u]) := by unfold FX; rw [List.map_append]; rfl
theorem leaf_ids {l : List Cls} {i : Int} (h : i ∈ leavesS l) : i ∈ ids l := (sort_ids i).1 (List.mem_filter.1 h).1
set_option maxRecDepth 20000 in
set_option maxHeartbeats 2000000 in
theorem qgiven_c (q : Nat) (l : List Cls) (R : Tp.Tree l) (hs : ∀ c ∈ l, c.share < 18446744073709551616) (tpb : Int) (w : World) (hQ : QuotaAt w w.heap.size q l tpb) :
    Calls Try.prog 12 #[.pointer (some ⟨q, 0, none⟩)] w fun e w' => e = .returned (.float .f64 (fx (leafU l).sum)) ∧ Below w.heap.size w w' := by
  obtain ⟨i0, hi, hz0, hz1, hz2⟩ := info_parts infoF
  have h64 := R.le
  have HPT := Lib.hid (fun (u : World) (hu : Below w.heap.size w u) (y : Int) (hy : y ∈ leavesS l) => qpart_c (.pointer (some ⟨q, 0, none⟩)) l hs tpb y (wf_id (i := y) (by have := ids_pos R.good (leaf_ids (l := l) hy); omega)) u (.inr ⟨q, rfl, (hQ.below hu).up hu.size⟩))
  obtain ⟨h, A, c, f, hq, _, h1, hS, _, _⟩ := hQ
  have q1 := cells_at h1 1 _ rfl
  have HS := Lib.hid hS
  have hll := leaves_le h64
  have hsum := leafU_sum hs h64
  have hln := leafU_len l
  have HTK := Lib.hid (fun (k : Nat) (y : Int) (h : (leavesS l)[k]? = some y) => leafU_at h)
  have HTOT := Lib.hid (fun A c B u (h : Sl u B 1 A (leafU l).length (FX (leafU l))) => total_c A c B (leafU l) (by rw [leafU_len]; omega) (by have := leafU_sum hs h64; omega) u h)
  rw [hln] at HTOT
  have HTA : Hid ((leafU l).take (leavesS l).length = leafU l) := Lib.hid (by rw [← hln, List.take_length])
  generalize hzs : leavesS l = zs at *
  clear hS h1 hs R hsum hln hzs
  go_enter Try.func12, Try.ntmps12
  go_wp2_with fail
  go_loopg [3, 13] zs.length (fun kx s3 s13 wr => ∃ (k : Nat) (B9 : Option Addr) (c9 : Nat), s13 = .int .i64 k ∧ s3 = .slice B9 k c9 ∧ k ≤ zs.length ∧ zs.length - k ≤ kx ∧ Hid (wr.ownsRow w.heap.size 35 1 s3 k (FX ((leafU l).take k))) ∧ Hid (Below w.heap.size w wr))
  case atStart => exact ⟨0, none, 0, rfl, rfl, by omega, by omega, Lib.hid (World.ownsRow_nil ..), Lib.hid (Below.refl _ _)⟩
  case round =>
    obtain ⟨k, B9, c9, rfl, rfl, hk, hkx, HO, HW⟩ := hrel
    have hwz := HW.out.size
    clear q1
    by_cases hlt : k < zs.length
    · have hltz : (k : Int) < (zs.length : Int) := by omega
      obtain ⟨a, u, rfl, hab, hu, hc⟩ := (HS.out.below HW.out).cell1 (k := k) hlt
      unfold St.I at hu
      simp only [List.getElem?_map] at hu
      obtain ⟨y, hy0, rfl⟩ := Option.map_eq_some_iff.1 hu
      have HP := Lib.hid (HPT.out wr HW.out y (List.mem_of_getElem? hy0))
      have hk1 := HTK.out k y hy0
      have HAPP := Lib.hid (show FX ((leafU l).take k) ++ [.float .f64 (fx (uAt l y))] = FX ((leafU l).take (k + 1)) by rw [hk1, FX_snoc])
      clear hu hy0 hk1
      generalize fx (uAt l y) = z at *
      go_wp2_with (first
        | (go_at_call 13; (with_reducible refine (HP.out).mono ?_); rintro e w2 ⟨rfl, hb2⟩; have HB2 := Lib.hid hb2
           have HOW := Lib.hid ((own_same (w' := w2) HO.out (fun q hq => hb2.block q (HO.out.lt q hq).2)).alloc (.cells #[.float .f64 z] 35))
           have HNW : Hid (Li.News (w2.alloc (.cells #[.float .f64 z] 35)) 1 (.slice (some ⟨w2.heap.size, 0, none⟩) 1 1) 1 [.float .f64 z]) := Lib.hid (.inl ⟨⟨w2.heap.size, 0, none⟩, 1, rfl, rfl, fun j u hu => by rw [add_zero_at]; rw [(row_new w2 35 [.float .f64 z]).cell]; exact hu⟩)
           have HW2 := Lib.hid ((HW.out.trans (hb2.mono hwz)).alloc (Nat.le_trans hwz hb2.size) (.cells #[.float .f64 z] 35)); clear hb2)
        | (at_builtin; go_must (refine Li.wpList_cats (by rfl) _ _ 73 (by rfl) w.heap.size 35 i0 _ 1 8 Try.underlying73 hi hz0 hz1 hz2 rfl (by decide) (by decide) _ _ k _ HOW.out (by rfl) _ 1 [.float .f64 z] (by rfl) HNW.out (by simp [Value.oneCell']) (by omega) (by decide) HW2.out.size (k + 1) _ rfl HAPP.out ?_); intro A7 c7 w7 hown7 hb7; have HO7 := Lib.hid hown7; have HB7 := Lib.hid (HW2.out.trans hb7); clear hown7 hb7))
      go_roundg (zs.length - (k + 1))
      case measure => omega
      case rel => exact ⟨k + 1, A7, c7, by go_num, rfl, by omega, by omega, HO7, HB7⟩
    · have hltz : ¬ (k : Int) < (zs.length : Int) := by omega
      obtain rfl : k = zs.length := by omega
      have hsl := Sl.of_own HO.out
      rw [HTA.out] at hsl
      have HT := Lib.hid (HTOT.out B9 c9 wr.heap.size wr hsl)
      clear hsl
      obtain ⟨z, hz⟩ : ∃ z, z = fx (leafU l).sum := ⟨_, rfl⟩
      rw [← hz] at HT
      have HZ := Lib.hid hz
      clear hz
      go_wp2_with (go_at_call 36; (with_reducible refine (HT.out).mono ?_); rintro e w' ⟨rfl, rfl⟩)
      go_ret
      exact ⟨by rw [← HZ.out]; rfl, HW.out⟩
set_option maxRecDepth 20000 in
set_option maxHeartbeats 2000000 in
theorem rqgiven_c (A : Option Addr) (cap : Nat) (l : List Cls) (R : Tp.Tree l) (hs : ∀ c ∈ l, c.share < 18446744073709551616) (w : World) (hI : Holds w.heap.size w (.slice A l.length cap) l) :
    Calls Try.prog 20 #[.slice A l.length cap] w fun e w' => e = .returned (.float .f64 (fx (leafU l).sum)) ∧ Below w.heap.size w w' := by
  obtain ⟨i0, hi, hz0, hz1, hz2⟩ := info_parts infoF
  have h64 := R.le
  have HPT := Lib.hid (fun (u : World) (hu : Below w.heap.size w u) (y : Int) => rqunits_c A cap l hs (by omega) y u (holds_next hI hu))
  have HOF := Lib.hid (fun (u : World) (y : Int) => refof_c (uAt l y) (uAt_le hs y) u)
  have hlv := refleaves_c A cap l (by omega) w hI
  unfold ListOk at hlv
  have HLV := Lib.hid hlv
  have hll := leaves_le h64
  have hsum := leafU_sum hs h64
  have hln := leafU_len l
  have HTK := Lib.hid (fun (k : Nat) (y : Int) (h : (leavesS l)[k]? = some y) => leafU_at h)
  have HTOT := Lib.hid (fun A c B u (h : Sl u B 1 A (leafU l).length (FX (leafU l))) => reftotal_c A c B (leafU l) (by rw [leafU_len]; omega) (by have := leafU_sum hs h64; omega) u h)
  rw [hln] at HTOT
  have HTA : Hid ((leafU l).take (leavesS l).length = leafU l) := Lib.hid (by rw [← hln, List.take_length])
  generalize hzs : leavesS l = zs at *
  clear hs R hsum hln hzs hlv hI
  go_enter Try.func20, Try.ntmps20
  go_wp2_with (go_at_call 41; (with_reducible refine (HLV.out).mono ?_); rintro e w1 ⟨A1, c1, rfl, hs1, hb1⟩; have HS := Lib.hid hs1; have HB1 := Lib.hid hb1; clear hs1 hb1)
  have hw1 := HB1.out.size
  go_loopg [3, 5] zs.length (fun kx s3 s5 wr => ∃ (k : Nat) (B9 : Option Addr) (c9 : Nat), s5 = .int .i64 k ∧ s3 = .slice B9 k c9 ∧ k ≤ zs.length ∧ zs.length - k ≤ kx ∧ Hid (wr.ownsRow w1.heap.size 35 1 s3 k (FX ((leafU l).take k))) ∧ Hid (Below w1.heap.size w1 wr))
  case atStart => exact ⟨0, none, 0, rfl, rfl, by omega, by omega, Lib.hid (World.ownsRow_nil ..), Lib.hid (Below.refl _ _)⟩
  case round =>
    obtain ⟨k, B9, c9, rfl, rfl, hk, hkx, HO, HW⟩ := hrel
    have hwz := HW.out.size
    by_cases hlt : k < zs.length
    · have hltz : (k : Int) < (zs.length : Int) := by omega
      obtain ⟨a, u, rfl, hab, hu, hc⟩ := (HS.out.below HW.out).cell1 (k := k) hlt
      unfold St.I at hu
      simp only [List.getElem?_map] at hu
      obtain ⟨y, hy0, rfl⟩ := Option.map_eq_some_iff.1 hu
      have HP := Lib.hid (HPT.out wr (HB1.out.trans (HW.out.mono hw1)) y)
      have HF := Lib.hid (fun u => HOF.out u y)
      have hk1 := HTK.out k y hy0
      have HAPP := Lib.hid (show FX ((leafU l).take k) ++ [.float .f64 (fx (uAt l y))] = FX ((leafU l).take (k + 1)) by rw [hk1, FX_snoc])
      clear hu hy0 hk1
      generalize fx (uAt l y) = z at *
      generalize uAt l y = uy at *
      go_wp2_with (first
        | (go_at_call 16; (with_reducible refine (HP.out).mono ?_); rintro e w2 ⟨rfl, hb2⟩
           have HOW := Lib.hid ((own_same (w' := w2) HO.out (fun q hq => hb2.block q (HO.out.lt q hq).2)).alloc (.cells #[.float .f64 z] 35))
           have HNW : Hid (Li.News (w2.alloc (.cells #[.float .f64 z] 35)) 1 (.slice (some ⟨w2.heap.size, 0, none⟩) 1 1) 1 [.float .f64 z]) := Lib.hid (.inl ⟨⟨w2.heap.size, 0, none⟩, 1, rfl, rfl, fun j u hu => by rw [add_zero_at]; rw [(row_new w2 35 [.float .f64 z]).cell]; exact hu⟩)
           have HW2 := Lib.hid ((HW.out.trans (hb2.mono hwz)).alloc (Nat.le_trans hwz hb2.size) (.cells #[.float .f64 z] 35)); clear hb2)
        | (go_at_call 18; (with_reducible refine (HF.out _).mono ?_); rintro e w' ⟨rfl, rfl⟩)
        | (at_builtin; go_must (refine Li.wpList_cats (by rfl) _ _ 73 (by rfl) w1.heap.size 35 i0 _ 1 8 Try.underlying73 hi hz0 hz1 hz2 rfl (by decide) (by decide) _ _ k _ HOW.out (by rfl) _ 1 [.float .f64 z] (by rfl) HNW.out (by simp [Value.oneCell']) (by omega) (by decide) HW2.out.size (k + 1) _ rfl HAPP.out ?_); intro A7 c7 w7 hown7 hb7; have HO7 := Lib.hid hown7; have HB7 := Lib.hid (HW2.out.trans hb7); clear hown7 hb7))
      go_roundg (zs.length - (k + 1))
      case measure => omega
      case rel => exact ⟨k + 1, A7, c7, by go_num, rfl, by omega, by omega, HO7, HB7⟩
    · have hltz : ¬ (k : Int) < (zs.length : Int) := by omega
      obtain rfl : k = zs.length := by omega
      have hsl := Sl.of_own HO.out
      rw [HTA.out] at hsl
      have HT := Lib.hid (HTOT.out B9 c9 wr.heap.size wr hsl)
      clear hsl
      obtain ⟨z, hz⟩ : ∃ z, z = fx (leafU l).sum := ⟨_, rfl⟩
      rw [← hz] at HT
      have HZ := Lib.hid hz
      clear hz
      go_wp2_with (go_at_call 42; (with_reducible refine (HT.out).mono ?_); rintro e w' ⟨rfl, rfl⟩)
      go_ret
      exact ⟨by rw [← HZ.out]; rfl, HB1.out.trans (HW.out.mono hw1)⟩
theorem qgiven_none (w : World) : Calls Try.prog 12 #[.pointer none] w fun e w' => e = .returned (.float .f64 0) ∧ w = w' := by
  go_enter Try.func12, Try.ntmps12
  go_wp2
  go_ret
  exact ⟨rfl, rfl⟩
end Go.Proofs.Ytdankjhjmaehiaa.Qu
