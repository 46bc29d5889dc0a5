/- The law PathsMeets. -/
import Derived.Test.YtdoemgccmjddcaaPc2
import Derived.Test.YtdoemgccmjddcaaPx3
import Derived.BigQuiet
namespace Go.Proofs.Ytdoemgccmjddcaa.Pa
open Go.RowKit Go.Maps Go.Proofs.Ytdoemgccmjddcaa.Wd Go.Proofs.Ytdoemgccmjddcaa.Li Go.Proofs.Ytdoemgccmjddcaa.Mp Go.Proofs.Ytdoemgccmjddcaa.Tp Go.Proofs.Ytdoemgccmjddcaa.Tr Go.Proofs.Ytdoemgccmjddcaa.Cl Go.Proofs.Ytdoemgccmjddcaa.So Go.Proofs.Ytdoemgccmjddcaa.Sw
attribute [local go_sem] run_store_float Lx.opX Rel.oneOk
attribute [local irreducible] Lx.wpX

set_option maxRecDepth 100000 in
set_option maxHeartbeats 2000000 in
theorem meets_t (A : Option Addr) (n c : Nat) (l : List Cls) (x0 x1 : Nat) (most : Int) (hx0 : x0 < 256) (hx1 : x1 < 256) (hs : ∀ x ∈ l, x.share < 18446744073709551616) (hcap : n ≤ c) (w : World) (hI : Holds w.heap.size w (.slice A n c) l) :
    Calls Try.prog 12 #[.slice A n c, .agg #[.int .u8 (x0 : Int), .int .u8 (x1 : Int)], .int .i64 most] w fun e w' => e = .returned (.bool true) ∧ Below w.heap.size w w' := by
  obtain ⟨rfl, _⟩ := holds_parts hI
  have hcl : (l.take 65).length = min 65 l.length := List.length_take
  have hcomp := fun u (hu : Below w.heap.size w u) => compile_c A (l.take 65).length c (l.take 65) (fun x hx => hs x (List.mem_of_mem_take hx)) (by omega) (by omega) u (holds_cut (holds_next hI hu) 65)
  have hmin : min (l.length : Int) 65 = ((l.take 65).length : Int) := by omega
  have hmc : ((l.take 65).length : Int) ≤ (c : Int) := by omega
  have HCT := Lib.hid (@cut_small l)
  have HI := Lib.hid hI
  clear hI hs
  obtain ⟨m, hm⟩ : ∃ m, m = l.take 65 := ⟨_, rfl⟩
  rw [← hm] at hcomp hmin hmc HCT hcl
  have HC := Lib.hid hcomp
  clear hcomp hm
  by_cases hz : chk m = 0
  · have R := Lib.hid (chk_tree hz)
    have HZ := Lib.hid hz
    have hml := HCT.out hz
    subst hml
    clear hz hcl
    go_enter Try.func12, Try.ntmps12
    go_upto_region 1 with fail
    have hr0 := (row_new w 109 [.int .u8 (x0 : Int), .int .u8 (x1 : Int)]).alloc (.cells #[.int .i64 most] 3)
    have hm0 := Boxed.new (w.alloc (.cells #[.int .u8 (x0 : Int), .int .u8 (x1 : Int)] 109)) 3 (.int .i64 most)
    rw [World.size_alloc] at hm0
    have hB0 : Below w.heap.size w ((w.alloc (.cells #[.int .u8 (x0 : Int), .int .u8 (x1 : Int)] 109)).alloc (.cells #[.int .i64 most] 3)) := ((Below.refl _ w).alloc (Nat.le_refl _) _).alloc (by simp) _
    have hz0 : ((w.alloc (.cells #[.int .u8 (x0 : Int), .int .u8 (x1 : Int)] 109)).alloc (.cells #[.int .i64 most] 3)).heap.size = w.heap.size + 1 + 1 := by simp
    obtain ⟨W0, hW0⟩ : ∃ W0, (w.alloc (.cells #[.int .u8 (x0 : Int), .int .u8 (x1 : Int)] 109)).alloc (.cells #[.int .i64 most] 3) = W0 := ⟨_, rfl⟩
    rw [hW0] at hm0 hB0 hz0 ⊢
    have hr1 : Row W0 w.heap.size 109 [.int .u8 (x0 : Int), .int .u8 (x1 : Int)] := by rw [← hW0]; exact hr0
    have HR0 := Lib.hid hr1; have HM0 := Lib.hid hm0; have HB0 := Lib.hid hB0
    clear hr0 hr1 hm0 hB0 hW0
    go_upto_region 4 with (go_at_call 68; (with_reducible refine (HC.out _ HB0.out).mono ?_); rintro e w1 (⟨hn, _⟩ | ⟨_, T, rfl, hT, hTw, hb1⟩); exact absurd HZ.out hn; have HT := Lib.hid hT; have HB1 := Lib.hid hb1; clear hT hb1)
    have hw1 := HB1.out.size
    have h64 := R.out.le
    have hne := R.out.ne
    have HV := Lib.hid (fun u (hu : Below w1.heap.size w1 u) => show TreeV u u.heap.size (.pointer (some ⟨T, 0, none⟩)) m from .inr ⟨T, rfl, (HT.out.below hu).up hu.size, R.out⟩)
    have HTu := Lib.hid (fun u (hu : Below w1.heap.size w1 u) => (HT.out.below hu).up hu.size)
    have hlz : ((m.length : Int) == 0) = false := by rw [beq_eq_false_iff_ne]; omega
    have hil := ids_len m
    have hids := Lib.hid (tids_c T m h64 w1 HT.out)
    unfold ListOk at hids
    rw [hil] at hids
    have HR1 := Lib.hid (HR0.out.below HB1.out (by omega))
    have HM1 := Lib.hid (show Boxed w1 (w.heap.size + 1) 3 (.int .i64 most) from HM0.out.kept (grown_of_below HB1.out) (by simp))
    clear HR0 HM0 HC HT
    go_upto_region 7 with (go_at_call 73; (with_reducible refine (hids.out).mono ?_); rintro e w2 ⟨A2, c2, rfl, hs2, hb2⟩; have S2 := Lib.hid hs2; have K2 := Lib.hid hb2; clear hs2 hb2)
    have hk2 := K2.out.size
    have HR2 := Lib.hid (HR1.out.below K2.out (by omega))
    have r0 : w2.cell? ⟨w.heap.size, 0, none⟩ = some (.int .u8 (x0 : Int)) := HR2.out.cell 0
    have r1 : w2.cell? ⟨w.heap.size, 1, none⟩ = some (.int .u8 (x1 : Int)) := HR2.out.cell 1
    obtain ⟨i0, hi0⟩ : ∃ i : Nat, i = x0 % m.length := ⟨_, rfl⟩
    obtain ⟨i1, hi1⟩ : ∃ i : Nat, i = x1 % m.length := ⟨_, rfl⟩
    have hl0 : i0 < m.length := by rw [hi0]; exact Nat.mod_lt _ hne
    have hl1 : i1 < m.length := by rw [hi1]; exact Nat.mod_lt _ hne
    have hm0 : Int.tmod (x0 : Int) (m.length : Int) = (i0 : Int) := by rw [hi0]; rfl
    have hm1 : Int.tmod (x1 : Int) (m.length : Int) = (i1 : Int) := by rw [hi1]; rfl
    obtain ⟨a2, ua, rfl, hab, hua, hca⟩ := S2.out.cell1 (k := i0) hl0
    obtain ⟨a3, ub, ha3, _, hub, hcb⟩ := S2.out.cell1 (k := i1) hl1
    cases ha3
    unfold St.I at hua hub
    rw [List.getElem?_map] at hua hub
    obtain ⟨a, ha, rfl⟩ := Option.map_eq_some_iff.1 hua
    obtain ⟨b, hb, rfl⟩ := Option.map_eq_some_iff.1 hub
    have hai : a ∈ ids m := (sort_ids a).1 (List.mem_of_getElem? ha)
    have hbi : b ∈ ids m := (sort_ids b).1 (List.mem_of_getElem? hb)
    have hida := Fit.wf (.inr R.out) hai
    have hidb := Fit.wf (.inr R.out) hbi
    have HAI := Lib.hid hai; have HBI := Lib.hid hbi
    have hl0z : (i0 : Int) < (m.length : Int) := by omega
    have hl1z : (i1 : Int) < (m.length : Int) := by omega
    clear hai hbi ha hb hua hub hi0 hi1
    go_quiet (fail)
    have HM2 := Lib.hid (show Boxed w2 (w.heap.size + 1) 3 (.int .i64 most) from HM1.out.kept (grown_of_below K2.out) (by simp))
    have K3 := Lib.hid (show Below w1.heap.size w1 (w2.drewN nq) from below_drewN K2.out nq)
    have S3 := Lib.hid (show Sl (w2.drewN nq) (w2.drewN nq).heap.size 1 (some a2) m.length (St.I (ids (sortC m))) from S2.out.drewN nq)
    have HM3 := Lib.hid (show Boxed (w2.drewN nq) (w.heap.size + 1) 3 (.int .i64 most) from HM2.out)
    clear r0 r1 hca hcb hm0 hm1 hl0 hl1 hl0z hl1z hlz K2 S2 HM1 HM2 HR1 HR2 hids hk2 hne
    generalize w2.drewN nq = w3 at *
    clear nq
    have hri := root_mem R.out.root
    have hidr := Fit.wf (.inr R.out) hri
    have hroot := Lib.hid (fun u hu => troot_c T m u.heap.size u (HTu.out u hu))
    have hme1 := Lib.hid (fun u hu => meet_c m (some ⟨T, 0, none⟩) a b hida hidb u (HV.out u hu))
    have hme2 := Lib.hid (fun u hu => meet_c m (some ⟨T, 0, none⟩) b a hidb hida u (HV.out u hu))
    have hua := Lib.hid (fun u hu => under_c m (some ⟨T, 0, none⟩) a (meetS m a b) hida u (HV.out u hu))
    have hub := Lib.hid (fun u hu => under_c m (some ⟨T, 0, none⟩) b (meetS m a b) hidb u (HV.out u hu))
    have hur := Lib.hid (fun u hu => under_c m (some ⟨T, 0, none⟩) a (rootS m) hida u (HV.out u hu))
    have hbe := Lib.hid (fun u hu => below_c m (some ⟨T, 0, none⟩) (rootS m) hidr u (HV.out u hu))
    have hle := Lib.hid (fun u hu => vleaves_c (some ⟨T, 0, none⟩) u (HV.out u hu))
    have hll := leaves_len m
    rw [meet_under R.out HAI.out HBI.out] at hua
    rw [meet_sym (.inr R.out) a b, meet_under R.out HBI.out HAI.out, ← meet_sym (.inr R.out) a b] at hub
    rw [meet_sym (.inr R.out) b a] at hme2
    rw [under_root R.out HAI.out] at hur
    rw [below_root R.out] at hbe
    unfold ListOk at hbe hle
    generalize hx1 : meetS m a b = mt at *
    generalize hx2 : rootS m = rt at *
    generalize hx3 : leavesS m = ls at *
    have hmm : (mt != mt) = false := by simp
    clear hx1 hx2 hx3 hri
    have hk3 := K3.out.size
    go_wp2_with (first
      | (go_at_call 84; ((with_reducible refine (hme1.out w3 K3.out).mono ?_); rintro e w4 ⟨rfl, hb4⟩; have K4 := Lib.hid (K3.out.trans (hb4.mono K3.out.size)); have L4 := Lib.hid hb4; clear hb4))
      | (go_at_call 85; ((with_reducible refine (hua.out w4 K4.out).mono ?_); rintro e w5 ⟨rfl, hb5⟩; have K5 := Lib.hid (K4.out.trans (hb5.mono K4.out.size)); have L5 := Lib.hid (L4.out.trans (hb5.mono L4.out.size)); clear hb5))
      | (go_at_call 85; ((with_reducible refine (hub.out w5 K5.out).mono ?_); rintro e w6 ⟨rfl, hb6⟩; have K6 := Lib.hid (K5.out.trans (hb6.mono K5.out.size)); have L6 := Lib.hid (L5.out.trans (hb6.mono L5.out.size)); clear hb6))
      | (go_at_call 84; ((with_reducible refine (hme2.out w6 K6.out).mono ?_); rintro e w7 ⟨rfl, hb7⟩; have K7 := Lib.hid (K6.out.trans (hb7.mono K6.out.size)); have L7 := Lib.hid (L6.out.trans (hb7.mono L6.out.size)); clear hb7))
      | (go_at_call 71; ((with_reducible refine (hroot.out w7 K7.out).mono ?_); rintro e w' ⟨rfl, rfl⟩))
      | (go_at_call 85; ((with_reducible refine (hur.out w7 K7.out).mono ?_); rintro e w8 ⟨rfl, hb8⟩; have K8 := Lib.hid (K7.out.trans (hb8.mono K7.out.size)); have L8 := Lib.hid (L7.out.trans (hb8.mono L7.out.size)); clear hb8))
      | (go_at_call 71; ((with_reducible refine (hroot.out w8 K8.out).mono ?_); rintro e w' ⟨rfl, rfl⟩))
      | (go_at_call 86; ((with_reducible refine (hbe.out w8 K8.out).mono ?_); rintro e w9 ⟨A9, c9, rfl, hs9, hb9⟩; have S9 := Lib.hid hs9; have K9 := Lib.hid (K8.out.trans (hb9.mono K8.out.size)); have L9 := Lib.hid (L8.out.trans (hb9.mono L8.out.size)); clear hs9 hb9))
      | (go_at_call 75; ((with_reducible refine (hle.out w9 K9.out).mono ?_); rintro e w10 ⟨A10, c10, rfl, hs10, hb10⟩; have S10 := Lib.hid hs10; have S910 := Lib.hid ((S9.out.below hb10).more hb10.size); have K10 := Lib.hid (K9.out.trans (hb10.mono K9.out.size)); have L10 := Lib.hid (L9.out.trans (hb10.mono L9.out.size)); clear hs10 hb10))
      | (go_at_call 32; ((with_reducible refine (same_two w10 _ _ _ _ ls _ rfl (by omega) S910.out S10.out).mono ?_); rintro e w11 ⟨rfl, hb11⟩; have K11 := Lib.hid (K10.out.trans (hb11.mono K10.out.size)); have L11 := Lib.hid (L10.out.trans (hb11.mono L10.out.size)); clear hb11)))
    have hl11 := L11.out.size
    have hk11 := K11.out.size
    have S11 := Lib.hid ((S3.out.below L11.out).more hl11)
    have HM11 := Lib.hid (show Boxed w11 (w.heap.size + 1) 3 (.int .i64 most) from HM3.out.kept (grown_of_below L11.out) (by simp))
    clear hme1 hme2 hua hub hur hbe hle S3 HM3 hmm
    go_loopg [100] m.length (fun kx s100 wr => ∃ k : Nat, s100 = .int .i64 k ∧ k ≤ m.length ∧ m.length - k ≤ kx ∧ Hid (Below w11.heap.size w11 wr))
    case atStart => exact ⟨0, rfl, by omega, by omega, Lib.hid (Below.refl _ _)⟩
    case round =>
      obtain ⟨k, rfl, hk, hkx, HW⟩ := hrel
      have hwz := HW.out.size
      have HWK := Lib.hid (K11.out.trans (HW.out.mono hk11))
      by_cases hlt : k < m.length
      · have hltz : (k : Int) < (m.length : Int) := by omega
        obtain ⟨a3, u, ha3, _, hu, hc⟩ := (S11.out.below HW.out).cell1 (k := k) hlt
        cases ha3
        unfold St.I at hu
        simp only [List.getElem?_map] at hu
        obtain ⟨y, hy0, rfl⟩ := Option.map_eq_some_iff.1 hu
        obtain ⟨q1, hq1⟩ : ∃ q, q = underS m a b := ⟨_, rfl⟩
        obtain ⟨q2, hq2⟩ : ∃ q, q = underS m b y := ⟨_, rfl⟩
        obtain ⟨q3, hq3⟩ : ∃ q, q = underS m a y := ⟨_, rfl⟩
        have hu1 := Lib.hid (fun u hu => under_c m (some ⟨T, 0, none⟩) a b hida u (HV.out u hu))
        have hu2 := Lib.hid (fun u hu => under_c m (some ⟨T, 0, none⟩) b y hidb u (HV.out u hu))
        have hu3 := Lib.hid (fun u hu => under_c m (some ⟨T, 0, none⟩) a y hida u (HV.out u hu))
        have htr : q1 = true → q2 = true → q3 = true := fun e1 e2 => by rw [hq3]; exact under_trans (.inr R.out) (hq1.symm.trans e1) (hq2.symm.trans e2)
        rw [← hq1] at hu1
        rw [← hq2] at hu2
        rw [← hq3] at hu3
        clear hu hy0 hq1 hq2 hq3
        cases q1 with
        | false =>
          clear htr
          go_wp2_with (go_at_call 85; ((with_reducible refine (hu1.out wr HWK.out).mono ?_); rintro e w12 ⟨rfl, hb12⟩; have HB12 := Lib.hid hb12; clear hb12))
          go_roundg (m.length - (k + 1))
          case measure => omega
          case rel => exact ⟨k + 1, by go_num, by omega, by omega, Lib.hid (HW.out.trans (HB12.out.mono hwz))⟩
        | true =>
          cases q2 with
          | false =>
            clear htr
            go_wp2_with (first
              | (go_at_call 85; ((with_reducible refine (hu1.out wr HWK.out).mono ?_); rintro e w12 ⟨rfl, hb12⟩; have HB12 := Lib.hid hb12; have K12 := Lib.hid (HWK.out.trans (hb12.mono HWK.out.size)); clear hb12))
              | (go_at_call 85; ((with_reducible refine (hu2.out w12 K12.out).mono ?_); rintro e w13 ⟨rfl, hb13⟩; have HB13 := Lib.hid (HB12.out.trans (hb13.mono HB12.out.size)); clear hb13)))
            go_roundg (m.length - (k + 1))
            case measure => omega
            case rel => exact ⟨k + 1, by go_num, by omega, by omega, Lib.hid (HW.out.trans (HB13.out.mono hwz))⟩
          | true =>
            have h3 := htr rfl rfl
            subst h3
            clear htr
            go_wp2_with (first
              | (go_at_call 85; ((with_reducible refine (hu1.out wr HWK.out).mono ?_); rintro e w12 ⟨rfl, hb12⟩; have HB12 := Lib.hid hb12; have K12 := Lib.hid (HWK.out.trans (hb12.mono HWK.out.size)); clear hb12))
              | (go_at_call 85; ((with_reducible refine (hu2.out w12 K12.out).mono ?_); rintro e w13 ⟨rfl, hb13⟩; have HB13 := Lib.hid (HB12.out.trans (hb13.mono HB12.out.size)); have K13 := Lib.hid (K12.out.trans (hb13.mono K12.out.size)); clear hb13))
              | (go_at_call 85; ((with_reducible refine (hu3.out w13 K13.out).mono ?_); rintro e w14 ⟨rfl, hb14⟩; have HB14 := Lib.hid (HB13.out.trans (hb14.mono HB13.out.size)); clear hb14)))
            go_roundg (m.length - (k + 1))
            case measure => omega
            case rel => exact ⟨k + 1, by go_num, by omega, by omega, Lib.hid (HW.out.trans (HB14.out.mono hwz))⟩
      · have hltz : ¬ (k : Int) < (m.length : Int) := by omega
        obtain rfl : k = m.length := by omega
        have hld := Lib.hid (lenders_c m (some ⟨T, 0, none⟩) a hida wr (HV.out wr HWK.out))
        have hlen := lend_len m a
        unfold ListOk at hld
        go_wp2_with (go_at_call 87; ((with_reducible refine (hld.out).mono ?_); rintro e w12 ⟨A12, c12, rfl, hs12, hb12⟩; have S12 := Lib.hid hs12; have L12 := Lib.hid (HW.out.trans (hb12.mono hwz)); have K12 := Lib.hid (HWK.out.trans (hb12.mono HWK.out.size)); clear hs12 hb12))
        clear hld HW HWK hwz
        have hl12 := L12.out.size
        have hk12 := K12.out.size
        have hlr := L12.out.size
        have HM12 := Lib.hid (show Boxed w12 (w.heap.size + 1) 3 (.int .i64 most) from HM11.out.kept (grown_of_below L12.out) (by simp))
        have W0 : was m a 0 = a := rfl
        go_loopg [15, 127] (lendS m a).length (fun kx s15 s127 wr => ∃ k : Nat, s127 = .int .i64 k ∧ s15 = .int .i64 (was m a k) ∧ k ≤ (lendS m a).length ∧ (lendS m a).length - k ≤ kx ∧ Hid (Below w12.heap.size w12 wr))
        case atStart => exact ⟨0, rfl, rfl, by omega, by omega, Lib.hid (Below.refl _ _)⟩
        case round =>
          obtain ⟨k, rfl, rfl, hk2, hkx2, HQ⟩ := hrel
          have hqz := HQ.out.size
          have HQK := Lib.hid (K12.out.trans (HQ.out.mono hk12))
          clear hltz hk hkx W0
          by_cases hlt : k < (lendS m a).length
          · have hltz : (k : Int) < ((lendS m a).length : Int) := by omega
            obtain ⟨a3, u, rfl, _, hu, hc⟩ := (S12.out.below HQ.out).cell1 (k := k) hlt
            unfold St.I at hu
            simp only [List.getElem?_map] at hu
            obtain ⟨y, hy0, rfl⟩ := Option.map_eq_some_iff.1 hu
            obtain ⟨x, hx, hxp, hxb⟩ := lend_at (.inr R.out) k a y hy0
            have hwas : was m a (k + 1) = y := by show ((lendS m a)[k]?).getD 0 = y; rw [hy0]; rfl
            have hxid : was m a k ∈ ids m := List.mem_map.2 ⟨x, (at_mem hx).1, (at_mem hx).2⟩
            have hcl := vclass_c (.pointer (some ⟨T, 0, none⟩)) (was m a k) (Fit.wf (.inr R.out) hxid) wr (HV.out wr HQK.out)
            have hxb2 : x.bounded = false := by unfold brw at hxb; cases h : x.bounded <;> simp [h] at hxb ⊢
            have hxi2 : x.isolated = false := by unfold brw at hxb; cases h : x.isolated <;> simp [h] at hxb ⊢
            unfold ClassOk clsV at hcl
            rw [hx] at hcl
            dsimp only [Option.getD, Option.isSome] at hcl
            rw [hxp, hxb2, hxi2] at hcl
            have HCL := Lib.hid hcl
            have HWAS := Lib.hid hwas
            have hyy : (y != y) = false := by simp
            clear hcl hwas hu hy0 hx hxp hxb hxb2 hxi2 hxid
            go_wp2_with (go_at_call 77; ((with_reducible refine (HCL.out).mono ?_); rintro e w14 ⟨rfl, hb14⟩; have HB14 := Lib.hid hb14; clear hb14))
            go_roundg ((lendS m a).length - (k + 1))
            case measure => omega
            case rel => exact ⟨k + 1, by go_num, by rw [HWAS.out], by omega, by omega, Lib.hid ((HQ.out.trans (HB14.out.mono hqz)).alloc (by have := HB14.out.size; omega) _)⟩
          · have hltz : ¬ (k : Int) < ((lendS m a).length : Int) := by omega
            obtain rfl : k = (lendS m a).length := by omega
            generalize was m a (lendS m a).length = wz
            have HMQ := Lib.hid (show Boxed wr (w.heap.size + 1) 3 (.int .i64 most) from HM12.out.kept (grown_of_below HQ.out) (by simp))
            clear S11 S12 HM11 HM12 L11 L12 K11 K12
            have bN := ((Boxed.new wr 3 (.int .i64 0)).alloc (.cells #[.pointer (some ⟨T, 0, none⟩)] 96)).alloc (.cells #[.int .i64 a] 3)
            have bT := (Boxed.new (wr.alloc (.cells #[.int .i64 0] 3)) 96 (.pointer (some ⟨T, 0, none⟩))).alloc (.cells #[.int .i64 a] 3)
            have bI := Boxed.new ((wr.alloc (.cells #[.int .i64 0] 3)).alloc (.cells #[.pointer (some ⟨T, 0, none⟩)] 96)) 3 (.int .i64 a)
            rw [World.size_alloc] at bT
            rw [World.size_alloc, World.size_alloc] at bI
            have hup := up_c (some ⟨T, 0, none⟩) a (wr.alloc (.cells #[.int .i64 0] 3))
            rw [World.size_alloc] at hup
            have hBu : Below wr.heap.size wr (((wr.alloc (.cells #[.int .i64 0] 3)).alloc (.cells #[.pointer (some ⟨T, 0, none⟩)] 96)).alloc (.cells #[.int .i64 a] 3)) := (((Below.refl _ wr).alloc (Nat.le_refl _) _).alloc (by simp) _).alloc (by simp; omega) _
            have hzu : (((wr.alloc (.cells #[.int .i64 0] 3)).alloc (.cells #[.pointer (some ⟨T, 0, none⟩)] 96)).alloc (.cells #[.int .i64 a] 3)).heap.size = wr.heap.size + 1 + 1 + 1 := by simp
            obtain ⟨wu, hwu⟩ : ∃ wu, ((wr.alloc (.cells #[.int .i64 0] 3)).alloc (.cells #[.pointer (some ⟨T, 0, none⟩)] 96)).alloc (.cells #[.int .i64 a] 3) = wu := ⟨_, rfl⟩
            rw [hwu] at bN bT bI hup hBu hzu
            have hmw : w.heap.size + 1 < wr.heap.size := by omega
            have hcnt := upn_c (wr.heap.size + 1 + 1) (wr.heap.size + 1) wr.heap.size (w.heap.size + 1) wr.heap.size m (.inr R.out) a most hida (.pointer (some ⟨T, 0, none⟩)) wu (Nat.le_refl _) hmw (by omega) (by omega) bI.cell bT bN ((hBu.cell (p := ⟨w.heap.size + 1, 0, none⟩) hmw).trans HMQ.out.cell) ((HV.out wr HQK.out).below hBu)
            have HUP := Lib.hid hup; have HCN := Lib.hid hcnt; have HBU := Lib.hid hBu
            clear hup hcnt hBu bN bT bI hwu hltz
            go_wp2_with (go_at_call 88; ((with_reducible refine (HUP.out).mono ?_); rintro e w9 ⟨rfl, hw9⟩; subst hw9))
            refine (HCN.out).mono ?_
            rintro e w15 ⟨⟨v15, rfl⟩, kn, hkn, hkl, hbn, hb15⟩
            have HB15 := Lib.hid (HBU.out.trans hb15)
            have hq15 := HB15.out.size
            have HM15 := Lib.hid (show Boxed w15 (w.heap.size + 1) 3 (.int .i64 most) from HMQ.out.kept (grown_of_below HB15.out) (by simp))
            have HN15 := Lib.hid hbn
            clear hb15 hbn HUP HCN HBU HMQ
            go_upto_region 28 with fail
            have hn15 : w15.cell? ⟨wr.heap.size, 0, none⟩ = some (.int .i64 (kn : Int)) := HN15.out.cell
            have hm15 : w15.cell? ⟨w.heap.size + 1, 0, none⟩ = some (.int .i64 most) := HM15.out.cell
            have hnl : wr.heap.size < w15.heap.size := (Array.getElem?_eq_some_iff.1 HN15.out).1
            have hS15 : ∀ q, (q = wr.heap.size ∨ q = w.heap.size + 1) → q < w15.drew.heap.size := fun q hq => by show q < w15.heap.size; rcases hq with e | e <;> omega
            have HS15 := Lib.hid hS15
            have HBd : Hid (Below wr.heap.size wr w15.drew) := Lib.hid HB15.out.drew
            have hpa := path_c m (some ⟨T, 0, none⟩) a hida w15.drew (HV.out _ (HQK.out.trans (HBd.out.mono (by have := HQK.out.size; omega))))
            have hpl : (wids m a).length = (way m a).length := List.length_map _
            unfold ListOk at hpa
            rw [hpl] at hpa
            have HPA := Lib.hid hpa
            obtain ⟨pl, hpl2⟩ : ∃ pl, pl = (way m a).length := ⟨_, rfl⟩
            rw [← hpl2] at HPA hkn
            clear hpa hpl hpl2 hS15
            by_cases hkp : kn = pl
            · subst hkp
              have hkk : ((kn : Int) == (kn : Int)) = true := by simp
              clear hkn
              refine Lx.wp_region_X 12 (fun w' => ∃ z, w' = Lx.kept (fun q => q = wr.heap.size ∨ q = w.heap.size + 1) w15.drew z) (fun i => i == 3) (by kernel_rfl) (by kernel_rfl) (Lx.kept_of (Lx.Keeps.refl _ _)) ?_
              simp only [List.take_succ_cons, List.take_zero, List.drop_succ_cons, List.drop_zero]
              repeat (refine Lx.wpX_step (fun K hK => ?_); refine Lx.opX_free (by rfl) (by rfl) (by rfl) ?_; go_big_quiet_op; refine hK _ _ ?_; clear hK K)
              refine Lx.wpX_step (fun K hK => ?_)
              refine Lx.opX_law (by rfl) (by rfl) ?_
              go_wp2_with (go_at_call 90; ((with_reducible refine (HPA.out).mono ?_); rintro e w16 ⟨A16, c16, rfl, hs16, hb16⟩; have HB16 := Lib.hid hb16; clear hs16 hb16))
              refine Lx.nq_mk (Lx.kept_of (fun q hq => HB16.out.block q (HS15.out q hq))) (hK _ _ ?_)
              clear hK K
              repeat (refine Lx.wpX_step (fun K hK => ?_); first | (refine Lx.opX_free (by rfl) (by rfl) (by rfl) ?_; go_big_quiet_op; refine hK _ _ ?_; clear hK K) | (refine Lx.opX_skip (by rfl) ?_; refine hK _ _ ?_; clear hK K; simp only [Act.put, List.setIfInBounds_toArray, List.set_cons_succ, List.set_cons_zero]))
              refine Lx.wpX_nil ?_
              go_wp2_with (go_at_call 83; ((with_reducible refine (lives19 _).mono ?_); rintro e w17 ⟨rfl, hb17⟩; have HB17 := Lib.hid (HB16.out.trans (hb17.mono HB16.out.size)); clear hb17))
              go_ret
              exact ⟨rfl, HB0.out.trans ((HB1.out.trans ((HQK.out.trans ((HBd.out.trans (HB17.out.mono (by have := HBd.out.size; omega))).mono (by have := HQK.out.size; omega))).mono (by omega))).mono (by omega))⟩
            · have hkk : ((kn : Int) == (pl : Int)) = false := by rw [beq_eq_false_iff_ne]; omega
              have hkm : (kn : Int) = most := hkn.resolve_left hkp
              have hmm : ((kn : Int) == most) = true := by rw [hkm]; simp
              have hkk2 : (kn == pl) = false := by rw [beq_eq_false_iff_ne]; exact hkp
              have hkk3 : decide (kn = pl) = false := decide_eq_false hkp
              clear hkn hkp hkm
              refine Lx.wp_region_X 12 (fun w' => ∃ z, w' = Lx.kept (fun q => q = wr.heap.size ∨ q = w.heap.size + 1) w15.drew z) (fun i => i == 3) (by kernel_rfl) (by kernel_rfl) (Lx.kept_of (Lx.Keeps.refl _ _)) ?_
              simp only [List.take_succ_cons, List.take_zero, List.drop_succ_cons, List.drop_zero]
              repeat (refine Lx.wpX_step (fun K hK => ?_); refine Lx.opX_free (by rfl) (by rfl) (by rfl) ?_; go_big_quiet_op; refine hK _ _ ?_; clear hK K)
              refine Lx.wpX_step (fun K hK => ?_)
              refine Lx.opX_law (by rfl) (by rfl) ?_
              go_wp2_with (go_at_call 90; ((with_reducible refine (HPA.out).mono ?_); rintro e w16 ⟨A16, c16, rfl, hs16, hb16⟩; have HB16 := Lib.hid hb16; clear hs16 hb16))
              refine Lx.nq_mk (Lx.kept_of (fun q hq => HB16.out.block q (HS15.out q hq))) (hK _ _ ?_)
              clear hK K
              repeat (refine Lx.wpX_step (fun K hK => ?_); first | (refine Lx.opX_free (by rfl) (by rfl) (by rfl) ?_; go_big_quiet_op; refine hK _ _ ?_; clear hK K) | (refine Lx.opX_skip (by rfl) ?_; refine hK _ _ ?_; clear hK K; simp only [Act.put, List.setIfInBounds_toArray, List.set_cons_succ, List.set_cons_zero]))
              refine Lx.wpX_nil ?_
              go_wp2_with (go_at_call 83; ((with_reducible refine (lives19 _).mono ?_); rintro e w17 ⟨rfl, hb17⟩; have HB17 := Lib.hid (HB16.out.trans (hb17.mono HB16.out.size)); clear hb17))
              go_ret
              exact ⟨rfl, HB0.out.trans ((HB1.out.trans ((HQK.out.trans ((HBd.out.trans (HB17.out.mono (by have := HBd.out.size; omega))).mono (by have := HQK.out.size; omega))).mono (by omega))).mono (by omega))⟩
  · obtain ⟨ck, hck⟩ : ∃ ck, ck = chk m := ⟨_, rfl⟩
    have HCK := Lib.hid hck
    have hcn : ck ≠ 0 := by rw [hck]; exact hz
    have hb0 : (ck != 0) = true := by rw [bne_iff_ne]; exact hcn
    have HZ := Lib.hid hcn
    have hcomp2 := HC.out
    unfold CompOk at hcomp2
    rw [← hck] at hcomp2
    have HC2 := Lib.hid hcomp2
    have hB2 := Lib.hid (show Below w.heap.size w ((w.alloc (.cells #[.int .u8 (x0 : Int), .int .u8 (x1 : Int)] 109)).alloc (.cells #[.int .i64 most] 3)) from ((Below.refl _ w).alloc (Nat.le_refl _) _).alloc (by simp) _)
    clear hcomp2 hck hz hcn HC HCT hcl
    go_enter Try.func12, Try.ntmps12
    go_wp2_with (first
      | (go_at_call 68; ((with_reducible refine (HC2.out _ hB2.out).mono ?_); rintro e w1 (⟨_, rfl, hb1⟩ | ⟨hn, _⟩); rotate_left; exact absurd hn HZ.out; have K1 := Lib.hid (hB2.out.trans (hb1.mono hB2.out.size)); clear hb1))
      | (go_at_call 83; ((with_reducible refine (lives19 _).mono ?_); rintro e w17 ⟨rfl, hb17⟩; have K17 := Lib.hid (K1.out.trans (hb17.mono K1.out.size)); clear hb17)))
    go_ret
    exact ⟨rfl, K17.out⟩
end Go.Proofs.Ytdoemgccmjddcaa.Pa
