/- The law QuotaTells. -/
import Derived.Test.YtdankjhjmaehiaaQx1
import Derived.Test.YtdankjhjmaehiaaLx2
namespace Go.Proofs.Ytdankjhjmaehiaa.Qu
open Go.RowKit Go.Maps Go.Proofs.Ytdankjhjmaehiaa.Fl Go.Proofs.Ytdankjhjmaehiaa.Wd Go.Proofs.Ytdankjhjmaehiaa.Li Go.Proofs.Ytdankjhjmaehiaa.Mp Go.Proofs.Ytdankjhjmaehiaa.Tp Go.Proofs.Ytdankjhjmaehiaa.Tr Go.Proofs.Ytdankjhjmaehiaa.Cl Go.Proofs.Ytdankjhjmaehiaa.So Go.Proofs.Ytdankjhjmaehiaa.Sw
attribute [local go_sem] run_store_float Lx.opX Rel.oneOk
attribute [local irreducible] Lx.wpX

theorem holds_cut {N : Nat} {w : World} {A : Option Addr} {c : Nat} {l : List Cls} (h : Holds N w (.slice A l.length c) l) (k : Nat) : Holds N w (.slice A (l.take k).length c) (l.take k) := by
  by_cases h0 : 0 < l.length
  · obtain ⟨_, hcs⟩ := holds_parts h
    obtain ⟨b, off, rfl, _⟩ := hcs h0
    by_cases hk : k ≤ l.length
    · have := holds_take h hk c
      rw [List.length_take, Nat.min_eq_left hk]; exact this
    · rw [List.take_of_length_le (by omega)]; exact h
  · obtain rfl : l = [] := List.eq_nil_of_length_eq_zero (by omega)
    simpa using h
/-- what Compile says of the first 65 -/
theorem cut_small {l : List Cls} (h : chk (l.take 65) = 0) : l.take 65 = l := by
  have := (chk_tree h).le
  rw [List.length_take] at this
  exact List.take_of_length_le (by omega)
theorem qnew_none (tpb : Int) (w : World) : Calls Try.prog 6 #[.pointer none, .int .i64 tpb] w fun e w' => e = .returned (.tuple #[.pointer none, .int .i64 1]) ∧ w = w' := by
  have HC := Lib.hid (fun w => qcheck_none w)
  go_enter Try.func6, Try.ntmps6
  go_wp2_with (go_at_call 7; (with_reducible refine (HC.out _).mono ?_); rintro e w' ⟨rfl, rfl⟩)
  go_ret2
  exact ⟨rfl, rfl⟩
theorem same_zero (w : World) : Calls Try.prog 11 #[.float .f64 0, .float .f64 0] w fun e w' => e = .returned (.bool true) ∧ w = w' := by
  have h := same_fx 0 (by decide) w
  rwa [fx_zero] at h
theorem nil_u : uAt [] 1 = 0 := uAt_none rfl
theorem nil_sp : spQ [] 1 = 0 := by unfold spQ; rw [if_neg (by intro h; cases h)]
theorem spq_in {l : List Cls} {id : Int} (h : id ∈ ids l) : spQ l id = spareS l id := by unfold spQ; rw [if_pos h]
theorem spq_out {l : List Cls} {id : Int} (h : id ∉ ids l) : spQ l id = 0 := by unfold spQ; rw [if_neg h]
theorem tpb_cases {tpb : Int} (h : tpbB tpb = false) : tpb < 1 ∨ (¬ tpb < 1 ∧ 1048576 < tpb) := by
  unfold tpbB at h
  simp only [Bool.and_eq_false_iff, decide_eq_false_iff_not] at h
  omega
theorem tpb_fine {tpb : Int} (h : tpbB tpb = true) : ¬ tpb < 1 ∧ ¬ 1048576 < tpb := by
  unfold tpbB at h
  simp only [Bool.and_eq_true, decide_eq_true_eq] at h
  omega

set_option maxRecDepth 100000 in
set_option maxHeartbeats 4000000 in
theorem qtells_t (A : Option Addr) (n c : Nat) (l : List Cls) (tpb a0 a1 : Int) (hs : ∀ x ∈ l, x.share < 18446744073709551616) (hcap : n ≤ c) (hid : (Lit.int .i64 a0).wf = true) (hin : (Lit.int .i64 a1).wf = true) (w : World) (hI : Holds w.heap.size w (.slice A n c) l) :
    Calls Try.prog 3 #[.slice A n c, .int .i64 tpb, .agg #[.int .i64 a0, .int .i64 a1]] w fun e w' => e = .returned (.bool true) ∧ Below w.heap.size w w' := by
  obtain ⟨rfl, _⟩ := holds_parts hI
  have hcl : (l.take 65).length = min 65 l.length := List.length_take
  have hcomp := fun u (hu : Below w.heap.size w u) => compile_c A (l.take 65).length c (l.take 65) (fun x hx => hs x (List.mem_of_mem_take hx)) (by omega) (by omega) u (holds_cut (holds_next hI hu) 65)
  have hmin : min (l.length : Int) 65 = ((l.take 65).length : Int) := by omega
  have hmc : ((l.take 65).length : Int) ≤ (c : Int) := by omega
  have HCT := Lib.hid (@cut_small l)
  have HI := Lib.hid hI
  have hB0 : Below w.heap.size w (w.alloc (.cells #[.int .i64 a0, .int .i64 a1] 23)) := (Below.refl _ w).alloc (Nat.le_refl _) _
  have hr0 := row_new w 23 [.int .i64 a0, .int .i64 a1]
  have HB0 := Lib.hid hB0; have HR0 := Lib.hid hr0
  have HS0 := Lib.hid hs
  clear hI hs hB0 hr0
  obtain ⟨m, hm⟩ : ∃ m, m = l.take 65 := ⟨_, rfl⟩
  rw [← hm] at hcomp hmin hmc HCT hcl
  have HC := Lib.hid hcomp
  clear hcomp hm
  by_cases hz : chk m = 0
  · have R := Lib.hid (chk_tree hz)
    have HZ := Lib.hid hz
    have hml := HCT.out hz
    subst hml
    clear hz hcl
    go_enter Try.func3, Try.ntmps3
    go_upto_region 2 with (go_at_call 5; (with_reducible refine (HC.out _ HB0.out).mono ?_); rintro e w1 (⟨hn, _⟩ | ⟨_, T, rfl, hT, hTw, hb1⟩); exact absurd HZ.out hn; have HT := Lib.hid hT; have HB1 := Lib.hid (HB0.out.trans (hb1.mono HB0.out.size)); have HBr := Lib.hid hb1; clear hT hb1)
    have hw1 := HB1.out.size
    have h64 := R.out.le
    have hsz0 : (w.alloc (.cells #[.int .i64 a0, .int .i64 a1] 23)).heap.size = w.heap.size + 1 := by simp
    have HR1 := Lib.hid (HR0.out.below HBr.out (by omega))
    have hwl : w.heap.size < w1.heap.size := HR1.out.lt
    have HTu := Lib.hid (fun u (hu : Below w1.heap.size w1 u) => (HT.out.below hu).up hu.size)
    have HIu := Lib.hid (fun u (hu : Below w1.heap.size w1 u) => holds_next HI.out (HB1.out.trans (hu.mono hw1)))
    have HN := Lib.hid (newq_c T m R.out HS0.out tpb w1 HT.out)
    have HCK := Lib.hid (fun u hu => qcheck_c T m R.out HS0.out u (HTu.out u hu))
    have HRC := Lib.hid (fun u hu => rqcheck_c A c m R.out.good HS0.out h64 u (HIu.out u hu))
    unfold QNewOk at HN
    unfold RetI2 at HCK HRC
    clear HR0 HC HCT HT HBr hsz0
    cases hqb : quotaB m with
    | false =>
      have HQ := Lib.hid hqb
      rw [quotaI_no hqb] at HCK HRC
      clear hqb
      go_wp2_with (first
        | (go_at_call 6; (with_reducible refine (HN.out).mono ?_); rintro e w2 (⟨_, rfl, hb2⟩ | ⟨hn, _⟩ | ⟨hn, _⟩); rotate_left; exact absurd hn (by rw [HQ.out]; decide); exact absurd hn (by rw [HQ.out]; decide); have K2 := Lib.hid hb2; clear hb2)
        | (go_at_call 15; (with_reducible refine (HRC.out _ K2.out).mono ?_); rintro e w3 ⟨rfl, hb3⟩; have K3 := Lib.hid (K2.out.trans (hb3.mono K2.out.size)); clear hb3)
        | (go_at_call 7; (with_reducible refine (HCK.out _ K3.out).mono ?_); rintro e w4 ⟨rfl, hb4⟩; have K4 := Lib.hid (K3.out.trans (hb4.mono K3.out.size)); clear hb4)
        | (go_at_call 14; (with_reducible refine (lives20 _).mono ?_); rintro e w5 ⟨rfl, hb5⟩; have K5 := Lib.hid (K4.out.trans (hb5.mono K4.out.size)); clear hb5))
      go_ret
      exact ⟨rfl, HB1.out.trans (K5.out.mono hw1)⟩
    | true =>
      have HQ := Lib.hid hqb
      rw [quotaI_yes hqb] at HCK HRC
      clear hqb
      cases htb : tpbB tpb with
      | false =>
        have HTB := Lib.hid htb
        rcases tpb_cases htb with ht | ⟨ht0, ht⟩
        · have d1 : decide (tpb < 1) = true := decide_eq_true ht
          clear htb ht
          go_wp2_with (first
            | (go_at_call 6; (with_reducible refine (HN.out).mono ?_); rintro e w2 (⟨hn, _⟩ | ⟨_, _, rfl, hb2⟩ | ⟨_, hn, _⟩); exact absurd hn (by rw [HQ.out]; decide); rotate_left; exact absurd hn (by rw [HTB.out]; decide); have K2 := Lib.hid hb2; clear hb2)
            | (go_at_call 15; (with_reducible refine (HRC.out _ K2.out).mono ?_); rintro e w3 ⟨rfl, hb3⟩; have K3 := Lib.hid (K2.out.trans (hb3.mono K2.out.size)); clear hb3)
            | (go_at_call 7; (with_reducible refine (HCK.out _ K3.out).mono ?_); rintro e w4 ⟨rfl, hb4⟩; have K4 := Lib.hid (K3.out.trans (hb4.mono K3.out.size)); clear hb4)
            | (go_at_call 14; (with_reducible refine (lives20 _).mono ?_); rintro e w5 ⟨rfl, hb5⟩; have K5 := Lib.hid (K4.out.trans (hb5.mono K4.out.size)); clear hb5))
          go_ret
          exact ⟨rfl, HB1.out.trans (K5.out.mono hw1)⟩
        · have d1 : decide (tpb < 1) = false := decide_eq_false ht0
          have d2 : decide (1048576 < tpb) = true := decide_eq_true ht
          clear htb ht ht0
          go_wp2_with (first
            | (go_at_call 6; (with_reducible refine (HN.out).mono ?_); rintro e w2 (⟨hn, _⟩ | ⟨_, _, rfl, hb2⟩ | ⟨_, hn, _⟩); exact absurd hn (by rw [HQ.out]; decide); rotate_left; exact absurd hn (by rw [HTB.out]; decide); have K2 := Lib.hid hb2; clear hb2)
            | (go_at_call 15; (with_reducible refine (HRC.out _ K2.out).mono ?_); rintro e w3 ⟨rfl, hb3⟩; have K3 := Lib.hid (K2.out.trans (hb3.mono K2.out.size)); clear hb3)
            | (go_at_call 7; (with_reducible refine (HCK.out _ K3.out).mono ?_); rintro e w4 ⟨rfl, hb4⟩; have K4 := Lib.hid (K3.out.trans (hb4.mono K3.out.size)); clear hb4)
            | (go_at_call 14; (with_reducible refine (lives20 _).mono ?_); rintro e w5 ⟨rfl, hb5⟩; have K5 := Lib.hid (K4.out.trans (hb5.mono K4.out.size)); clear hb5))
          go_ret
          exact ⟨rfl, HB1.out.trans (K5.out.mono hw1)⟩
      | true =>
        have HTB := Lib.hid htb
        obtain ⟨ht0, ht1⟩ := tpb_fine htb
        have d1 : decide (tpb < 1) = false := decide_eq_false ht0
        have d2 : decide (1048576 < tpb) = false := decide_eq_false ht1
        clear htb ht0 ht1
        go_upto_region 12 with (first
          | (go_at_call 6; (with_reducible refine (HN.out).mono ?_); rintro e w2 (⟨hn, _⟩ | ⟨_, hn, _⟩ | ⟨_, _, q, rfl, hq, hql, hb2⟩); exact absurd hn (by rw [HQ.out]; decide); exact absurd hn (by rw [HTB.out]; decide); have HQQ := Lib.hid hq; have K2 := Lib.hid hb2; clear hb2 hq)
          | (go_at_call 15; (with_reducible refine (HRC.out _ K2.out).mono ?_); rintro e w3 ⟨rfl, hb3⟩; have K3 := Lib.hid (K2.out.trans (hb3.mono K2.out.size)); have L3 := Lib.hid hb3; clear hb3)
          | (go_at_call 7; (with_reducible refine (HCK.out _ K3.out).mono ?_); rintro e w4 ⟨rfl, hb4⟩; have K4 := Lib.hid (K3.out.trans (hb4.mono K3.out.size)); have L4 := Lib.hid (L3.out.trans (hb4.mono L3.out.size)); clear hb4))
        have hk4 := K4.out.size
        have HQu := Lib.hid (fun u (hu : Below w4.heap.size w4 u) => (HQQ.out.below (L4.out.trans (hu.mono L4.out.size))).up (show w2.heap.size ≤ u.heap.size from Nat.le_trans L4.out.size hu.size))
        have HIv := Lib.hid (fun u (hu : Below w4.heap.size w4 u) => HIu.out u (K4.out.trans (hu.mono hk4)))
        have HR4 := Lib.hid (HR1.out.below K4.out hwl)
        have r0 : w4.cell? ⟨w.heap.size, 0, none⟩ = some (.int .i64 a0) := HR4.out.cell 0
        have cRU := Lib.hid (fun u hu => rqunits_c A c m HS0.out (by omega) a0 u (HIv.out u hu))
        have cRS := Lib.hid (fun u hu => rqspare_c A c m R.out.good HS0.out h64 a0 u (HIv.out u hu))
        have cU := Lib.hid (fun u hu => qunits_c (.pointer (some ⟨q, 0, none⟩)) m tpb a0 hid u (.inr ⟨q, rfl, HQu.out u hu⟩))
        have cS := Lib.hid (fun u hu => qspare_c (.pointer (some ⟨q, 0, none⟩)) m tpb a0 hid u (.inr ⟨q, rfl, HQu.out u hu⟩))
        have cP := Lib.hid (fun u hu => qpart_c (.pointer (some ⟨q, 0, none⟩)) m HS0.out tpb a0 hid u (.inr ⟨q, rfl, HQu.out u hu⟩))
        have cO := Lib.hid (fun u => refof_c (uAt m a0) (uAt_le HS0.out a0) u)
        have cF := Lib.hid (fun u => same_fx (uAt m a0) (by have := uAt_le HS0.out a0; omega) u)
        have cT := Lib.hid (fun u hu => qtime_c (.pointer (some ⟨q, 0, none⟩)) m tpb a0 a1 hid u (.inr ⟨q, rfl, HQu.out u hu⟩))
        have cRT := Lib.hid (fun u hu => rqtime_c A c m HS0.out (by omega) tpb a0 a1 hin u (HIv.out u hu))
        have cG := Lib.hid (fun u hu => qgiven_c q m R.out HS0.out tpb u (HQu.out u hu))
        have cRG := Lib.hid (fun u hu => rqgiven_c A c m R.out HS0.out u (HIv.out u hu))
        have cFG := Lib.hid (fun u => same_fx (leafU m).sum (by have := leafU_sum HS0.out h64; omega) u)
        have hwl4 : w.heap.size < w4.heap.size := by omega
        by_cases hi : a0 ∈ ids m
        · have hsp := spq_in hi
          have hup := uAt_pos R.out hi
          rw [← hsp] at cRS
          have hupz : (0 : Int) < (uAt m a0 : Int) := by omega
          generalize fx (uAt m a0) = z1 at *
          generalize fx (leafU m).sum = z2 at *
          generalize exactS tpb (uAt m a0 : Int) a1 = x1 at *
          generalize uAt m a0 = u1 at *
          generalize spQ m a0 = s1 at *
          clear hi hsp hup HN HCK HRC HQQ L3 L4 HIu HTu
          go_upto_region 16 with (first
            | (go_at_call 16; (with_reducible refine (cRU.out w4 (Below.refl _ _)).mono ?_); rintro e w5 ⟨rfl, hb5⟩; have K5 := Lib.hid hb5; clear hb5)
            | (go_at_call 17; (with_reducible refine (cRS.out w5 K5.out).mono ?_); rintro e w6 ⟨rfl, hb6⟩; have K6 := Lib.hid (K5.out.trans (hb6.mono K5.out.size)); clear hb6))
          have HRb := Lib.hid (HR4.out.below K6.out hwl4)
          have e1 : w6.cell? ⟨w.heap.size, 1, none⟩ = some (.int .i64 a1) := HRb.out.cell 1
          have huu : ((u1 : Int) == (u1 : Int)) = true := by simp
          have hss : (s1 == s1) = true := by simp
          have hxx : ((x1 : Int) == (x1 : Int)) = true := by simp
          have hbz := K6.out.size
          have KD := Lib.hid (show Below w4.heap.size w4 w6.drew from K6.out.drew)
          have KE := Lib.hid (fun (u : World) (hu : Below w4.heap.size w4 u) => show Lx.Keeps (fun q => q = w.heap.size) w6.drew u from fun q hq => by subst hq; exact (hu.block _ hwl4).trans (K6.out.block _ hwl4).symm)
          clear r0
          refine Lx.wp_region_Y 46 (fun w' => ∃ z, w' = Lx.kept (fun q => q = w.heap.size) w6.drew z) [5, 12, 19, 21, 22, 29, 35, 40, 42, 43] (by kernel_rfl) (by kernel_rfl) (Lx.kept_of (Lx.Keeps.refl _ _)) ?_
          simp only [List.take_succ_cons, List.take_zero, List.drop_succ_cons, List.drop_zero]
          repeat (refine Lx.wpX_step (fun K hK => ?_); refine Lx.opX_free (by rfl) (by rfl) (by rfl) ?_; go_big_quiet_op; refine hK _ _ ?_; clear hK K)
          refine Lx.wpX_step (fun K hK => ?_)
          refine Lx.opX_law (by rfl) (by rfl) ?_
          go_wp2_with (go_at_call 8; (with_reducible refine (cU.out _ KD.out).mono ?_); rintro e w20 ⟨rfl, hb20⟩; have KK20 := Lib.hid (KD.out.trans (hb20.mono KD.out.size)); clear hb20)
          refine Lx.nq_mk (Lx.kept_of (KE.out _ KK20.out)) (hK _ _ ?_)
          clear hK K
          repeat (refine Lx.wpX_step (fun K hK => ?_); refine Lx.opX_free (by rfl) (by rfl) (by rfl) ?_; go_big_quiet_op; refine hK _ _ ?_; clear hK K)
          refine Lx.wpX_step (fun K hK => ?_)
          refine Lx.opX_law (by rfl) (by rfl) ?_
          go_wp2_with (go_at_call 9; (with_reducible refine (cS.out _ KK20.out).mono ?_); rintro e w21 ⟨rfl, hb21⟩; have KK21 := Lib.hid (KK20.out.trans (hb21.mono KK20.out.size)); clear hb21)
          refine Lx.nq_mk (Lx.kept_of (KE.out _ KK21.out)) (hK _ _ ?_)
          clear hK K
          repeat (refine Lx.wpX_step (fun K hK => ?_); refine Lx.opX_free (by rfl) (by rfl) (by rfl) ?_; go_big_quiet_op; refine hK _ _ ?_; clear hK K)
          refine Lx.wpX_step (fun K hK => ?_)
          refine Lx.opX_law (by rfl) (by rfl) ?_
          go_wp2_with (go_at_call 13; (with_reducible refine (cP.out _ KK21.out).mono ?_); rintro e w22 ⟨rfl, hb22⟩; have KK22 := Lib.hid (KK21.out.trans (hb22.mono KK21.out.size)); clear hb22)
          refine Lx.nq_mk (Lx.kept_of (KE.out _ KK22.out)) (hK _ _ ?_)
          clear hK K
          repeat (refine Lx.wpX_step (fun K hK => ?_); refine Lx.opX_free (by rfl) (by rfl) (by rfl) ?_; go_big_quiet_op; refine hK _ _ ?_; clear hK K)
          refine Lx.wpX_step (fun K hK => ?_)
          refine Lx.opX_law (by rfl) (by rfl) ?_
          go_wp2_with (go_at_call 18; (with_reducible refine (cO.out _).mono ?_); rintro e w' ⟨rfl, rfl⟩)
          refine Lx.nq_mk (Lx.kept_of (KE.out _ KK22.out)) (hK _ _ ?_)
          clear hK K
          repeat (refine Lx.wpX_step (fun K hK => ?_); refine Lx.opX_free (by rfl) (by rfl) (by rfl) ?_; go_big_quiet_op; refine hK _ _ ?_; clear hK K)
          refine Lx.wpX_step (fun K hK => ?_)
          refine Lx.opX_law (by rfl) (by rfl) ?_
          go_wp2_with (go_at_call 11; (with_reducible refine (cF.out _).mono ?_); rintro e w' ⟨rfl, rfl⟩)
          refine Lx.nq_mk (Lx.kept_of (KE.out _ KK22.out)) (hK _ _ ?_)
          clear hK K
          repeat (refine Lx.wpX_step (fun K hK => ?_); refine Lx.opX_free (by rfl) (by rfl) (by rfl) ?_; go_big_quiet_op; refine hK _ _ ?_; clear hK K)
          refine Lx.wpX_step (fun K hK => ?_)
          refine Lx.opX_law (by rfl) (by rfl) ?_
          go_wp2_with (go_at_call 10; (with_reducible refine (cT.out _ KK22.out).mono ?_); rintro e w23 ⟨rfl, hb23⟩; have KK23 := Lib.hid (KK22.out.trans (hb23.mono KK22.out.size)); clear hb23)
          refine Lx.nq_mk (Lx.kept_of (KE.out _ KK23.out)) (hK _ _ ?_)
          clear hK K
          repeat (refine Lx.wpX_step (fun K hK => ?_); refine Lx.opX_free (by rfl) (by rfl) (by rfl) ?_; go_big_quiet_op; refine hK _ _ ?_; clear hK K)
          refine Lx.wpX_step (fun K hK => ?_)
          refine Lx.opX_law (by rfl) (by rfl) ?_
          go_wp2_with (go_at_call 19; (with_reducible refine (cRT.out _ KK23.out).mono ?_); rintro e w24 ⟨rfl, hb24⟩; have KK24 := Lib.hid (KK23.out.trans (hb24.mono KK23.out.size)); clear hb24)
          refine Lx.nq_mk (Lx.kept_of (KE.out _ KK24.out)) (hK _ _ ?_)
          clear hK K
          repeat (refine Lx.wpX_step (fun K hK => ?_); refine Lx.opX_free (by rfl) (by rfl) (by rfl) ?_; go_big_quiet_op; refine hK _ _ ?_; clear hK K)
          refine Lx.wpX_step (fun K hK => ?_)
          refine Lx.opX_law (by rfl) (by rfl) ?_
          go_wp2_with (go_at_call 12; (with_reducible refine (cG.out _ KK24.out).mono ?_); rintro e w25 ⟨rfl, hb25⟩; have KK25 := Lib.hid (KK24.out.trans (hb25.mono KK24.out.size)); clear hb25)
          refine Lx.nq_mk (Lx.kept_of (KE.out _ KK25.out)) (hK _ _ ?_)
          clear hK K
          repeat (refine Lx.wpX_step (fun K hK => ?_); refine Lx.opX_free (by rfl) (by rfl) (by rfl) ?_; go_big_quiet_op; refine hK _ _ ?_; clear hK K)
          refine Lx.wpX_step (fun K hK => ?_)
          refine Lx.opX_law (by rfl) (by rfl) ?_
          go_wp2_with (go_at_call 20; (with_reducible refine (cRG.out _ KK25.out).mono ?_); rintro e w26 ⟨rfl, hb26⟩; have KK26 := Lib.hid (KK25.out.trans (hb26.mono KK25.out.size)); clear hb26)
          refine Lx.nq_mk (Lx.kept_of (KE.out _ KK26.out)) (hK _ _ ?_)
          clear hK K
          repeat (refine Lx.wpX_step (fun K hK => ?_); refine Lx.opX_free (by rfl) (by rfl) (by rfl) ?_; go_big_quiet_op; refine hK _ _ ?_; clear hK K)
          refine Lx.wpX_step (fun K hK => ?_)
          refine Lx.opX_law (by rfl) (by rfl) ?_
          go_wp2_with (go_at_call 11; (with_reducible refine (cFG.out _).mono ?_); rintro e w' ⟨rfl, rfl⟩)
          refine Lx.nq_mk (Lx.kept_of (KE.out _ KK26.out)) (hK _ _ ?_)
          clear hK K
          repeat (refine Lx.wpX_step (fun K hK => ?_); refine Lx.opX_free (by rfl) (by rfl) (by rfl) ?_; go_big_quiet_op; refine hK _ _ ?_; clear hK K)
          refine Lx.wpX_nil ?_
          go_wp2_with (go_at_call 14; (with_reducible refine (lives20 _).mono ?_); rintro e w27 ⟨rfl, hb27⟩; have KK27 := Lib.hid (KK26.out.trans (hb27.mono KK26.out.size)); clear hb27)
          go_ret
          exact ⟨rfl, HB1.out.trans ((K4.out.trans (KK27.out.mono hk4)).mono hw1)⟩
        · have hsp := spq_out hi
          have hu0 : uAt m a0 = 0 := uAt_none (at_none.2 hi)
          have hupz : ¬ (0 : Int) < (uAt m a0 : Int) := by omega
          generalize fx (uAt m a0) = z1 at *
          generalize fx (leafU m).sum = z2 at *
          generalize exactS tpb (uAt m a0 : Int) a1 = x1 at *
          generalize uAt m a0 = u1 at *
          rw [hsp] at cS
          clear hi hsp hu0 HN HCK HRC HQQ L3 L4 HIu HTu
          go_upto_region 16 with (go_at_call 16; (with_reducible refine (cRU.out w4 (Below.refl _ _)).mono ?_); rintro e w5 ⟨rfl, hb5⟩; have K5 := Lib.hid hb5; clear hb5)
          have HRb := Lib.hid (HR4.out.below K5.out hwl4)
          have e1 : w5.cell? ⟨w.heap.size, 1, none⟩ = some (.int .i64 a1) := HRb.out.cell 1
          have huu : ((u1 : Int) == (u1 : Int)) = true := by simp
          have hxx : ((x1 : Int) == (x1 : Int)) = true := by simp
          have hbz := K5.out.size
          have KD := Lib.hid (show Below w4.heap.size w4 w5.drew from K5.out.drew)
          have KE := Lib.hid (fun (u : World) (hu : Below w4.heap.size w4 u) => show Lx.Keeps (fun q => q = w.heap.size) w5.drew u from fun q hq => by subst hq; exact (hu.block _ hwl4).trans (K5.out.block _ hwl4).symm)
          clear r0
          refine Lx.wp_region_Y 46 (fun w' => ∃ z, w' = Lx.kept (fun q => q = w.heap.size) w5.drew z) [5, 12, 19, 21, 22, 29, 35, 40, 42, 43] (by kernel_rfl) (by kernel_rfl) (Lx.kept_of (Lx.Keeps.refl _ _)) ?_
          simp only [List.take_succ_cons, List.take_zero, List.drop_succ_cons, List.drop_zero]
          repeat (refine Lx.wpX_step (fun K hK => ?_); refine Lx.opX_free (by rfl) (by rfl) (by rfl) ?_; go_big_quiet_op; refine hK _ _ ?_; clear hK K)
          refine Lx.wpX_step (fun K hK => ?_)
          refine Lx.opX_law (by rfl) (by rfl) ?_
          go_wp2_with (go_at_call 8; (with_reducible refine (cU.out _ KD.out).mono ?_); rintro e w20 ⟨rfl, hb20⟩; have KK20 := Lib.hid (KD.out.trans (hb20.mono KD.out.size)); clear hb20)
          refine Lx.nq_mk (Lx.kept_of (KE.out _ KK20.out)) (hK _ _ ?_)
          clear hK K
          repeat (refine Lx.wpX_step (fun K hK => ?_); refine Lx.opX_free (by rfl) (by rfl) (by rfl) ?_; go_big_quiet_op; refine hK _ _ ?_; clear hK K)
          refine Lx.wpX_step (fun K hK => ?_)
          refine Lx.opX_law (by rfl) (by rfl) ?_
          go_wp2_with (go_at_call 9; (with_reducible refine (cS.out _ KK20.out).mono ?_); rintro e w21 ⟨rfl, hb21⟩; have KK21 := Lib.hid (KK20.out.trans (hb21.mono KK20.out.size)); clear hb21)
          refine Lx.nq_mk (Lx.kept_of (KE.out _ KK21.out)) (hK _ _ ?_)
          clear hK K
          repeat (refine Lx.wpX_step (fun K hK => ?_); refine Lx.opX_free (by rfl) (by rfl) (by rfl) ?_; go_big_quiet_op; refine hK _ _ ?_; clear hK K)
          refine Lx.wpX_step (fun K hK => ?_)
          refine Lx.opX_law (by rfl) (by rfl) ?_
          go_wp2_with (go_at_call 13; (with_reducible refine (cP.out _ KK21.out).mono ?_); rintro e w22 ⟨rfl, hb22⟩; have KK22 := Lib.hid (KK21.out.trans (hb22.mono KK21.out.size)); clear hb22)
          refine Lx.nq_mk (Lx.kept_of (KE.out _ KK22.out)) (hK _ _ ?_)
          clear hK K
          repeat (refine Lx.wpX_step (fun K hK => ?_); refine Lx.opX_free (by rfl) (by rfl) (by rfl) ?_; go_big_quiet_op; refine hK _ _ ?_; clear hK K)
          refine Lx.wpX_step (fun K hK => ?_)
          refine Lx.opX_law (by rfl) (by rfl) ?_
          go_wp2_with (go_at_call 18; (with_reducible refine (cO.out _).mono ?_); rintro e w' ⟨rfl, rfl⟩)
          refine Lx.nq_mk (Lx.kept_of (KE.out _ KK22.out)) (hK _ _ ?_)
          clear hK K
          repeat (refine Lx.wpX_step (fun K hK => ?_); refine Lx.opX_free (by rfl) (by rfl) (by rfl) ?_; go_big_quiet_op; refine hK _ _ ?_; clear hK K)
          refine Lx.wpX_step (fun K hK => ?_)
          refine Lx.opX_law (by rfl) (by rfl) ?_
          go_wp2_with (go_at_call 11; (with_reducible refine (cF.out _).mono ?_); rintro e w' ⟨rfl, rfl⟩)
          refine Lx.nq_mk (Lx.kept_of (KE.out _ KK22.out)) (hK _ _ ?_)
          clear hK K
          repeat (refine Lx.wpX_step (fun K hK => ?_); refine Lx.opX_free (by rfl) (by rfl) (by rfl) ?_; go_big_quiet_op; refine hK _ _ ?_; clear hK K)
          refine Lx.wpX_step (fun K hK => ?_)
          refine Lx.opX_law (by rfl) (by rfl) ?_
          go_wp2_with (go_at_call 10; (with_reducible refine (cT.out _ KK22.out).mono ?_); rintro e w23 ⟨rfl, hb23⟩; have KK23 := Lib.hid (KK22.out.trans (hb23.mono KK22.out.size)); clear hb23)
          refine Lx.nq_mk (Lx.kept_of (KE.out _ KK23.out)) (hK _ _ ?_)
          clear hK K
          repeat (refine Lx.wpX_step (fun K hK => ?_); refine Lx.opX_free (by rfl) (by rfl) (by rfl) ?_; go_big_quiet_op; refine hK _ _ ?_; clear hK K)
          refine Lx.wpX_step (fun K hK => ?_)
          refine Lx.opX_law (by rfl) (by rfl) ?_
          go_wp2_with (go_at_call 19; (with_reducible refine (cRT.out _ KK23.out).mono ?_); rintro e w24 ⟨rfl, hb24⟩; have KK24 := Lib.hid (KK23.out.trans (hb24.mono KK23.out.size)); clear hb24)
          refine Lx.nq_mk (Lx.kept_of (KE.out _ KK24.out)) (hK _ _ ?_)
          clear hK K
          repeat (refine Lx.wpX_step (fun K hK => ?_); refine Lx.opX_free (by rfl) (by rfl) (by rfl) ?_; go_big_quiet_op; refine hK _ _ ?_; clear hK K)
          refine Lx.wpX_step (fun K hK => ?_)
          refine Lx.opX_law (by rfl) (by rfl) ?_
          go_wp2_with (go_at_call 12; (with_reducible refine (cG.out _ KK24.out).mono ?_); rintro e w25 ⟨rfl, hb25⟩; have KK25 := Lib.hid (KK24.out.trans (hb25.mono KK24.out.size)); clear hb25)
          refine Lx.nq_mk (Lx.kept_of (KE.out _ KK25.out)) (hK _ _ ?_)
          clear hK K
          repeat (refine Lx.wpX_step (fun K hK => ?_); refine Lx.opX_free (by rfl) (by rfl) (by rfl) ?_; go_big_quiet_op; refine hK _ _ ?_; clear hK K)
          refine Lx.wpX_step (fun K hK => ?_)
          refine Lx.opX_law (by rfl) (by rfl) ?_
          go_wp2_with (go_at_call 20; (with_reducible refine (cRG.out _ KK25.out).mono ?_); rintro e w26 ⟨rfl, hb26⟩; have KK26 := Lib.hid (KK25.out.trans (hb26.mono KK25.out.size)); clear hb26)
          refine Lx.nq_mk (Lx.kept_of (KE.out _ KK26.out)) (hK _ _ ?_)
          clear hK K
          repeat (refine Lx.wpX_step (fun K hK => ?_); refine Lx.opX_free (by rfl) (by rfl) (by rfl) ?_; go_big_quiet_op; refine hK _ _ ?_; clear hK K)
          refine Lx.wpX_step (fun K hK => ?_)
          refine Lx.opX_law (by rfl) (by rfl) ?_
          go_wp2_with (go_at_call 11; (with_reducible refine (cFG.out _).mono ?_); rintro e w' ⟨rfl, rfl⟩)
          refine Lx.nq_mk (Lx.kept_of (KE.out _ KK26.out)) (hK _ _ ?_)
          clear hK K
          repeat (refine Lx.wpX_step (fun K hK => ?_); refine Lx.opX_free (by rfl) (by rfl) (by rfl) ?_; go_big_quiet_op; refine hK _ _ ?_; clear hK K)
          refine Lx.wpX_nil ?_
          go_wp2_with (go_at_call 14; (with_reducible refine (lives20 _).mono ?_); rintro e w27 ⟨rfl, hb27⟩; have KK27 := Lib.hid (KK26.out.trans (hb27.mono KK26.out.size)); clear hb27)
          go_ret
          exact ⟨rfl, HB1.out.trans ((K4.out.trans (KK27.out.mono hk4)).mono hw1)⟩
  · obtain ⟨ck, hck⟩ : ∃ ck, ck = chk m := ⟨_, rfl⟩
    have hcn : ck ≠ 0 := by rw [hck]; exact hz
    have hb0 : (ck != 0) = true := by rw [bne_iff_ne]; exact hcn
    have HZ := Lib.hid hcn
    have hcomp2 := HC.out
    unfold CompOk at hcomp2
    rw [← hck] at hcomp2
    have HC2 := Lib.hid hcomp2
    have cN := Lib.hid (fun u => qnew_none tpb u)
    have cC := Lib.hid (fun u => qcheck_none u)
    have HV := Lib.hid (fun (u : World) => show QuotaV u u.heap.size (.pointer none) [] tpb from .inl ⟨rfl, rfl⟩)
    have cU := Lib.hid (fun u => qunits_c (.pointer none) [] tpb 1 (by decide) u (HV.out u))
    have cS := Lib.hid (fun u => qspare_c (.pointer none) [] tpb 1 (by decide) u (HV.out u))
    have cT := Lib.hid (fun u => qtime_c (.pointer none) [] tpb 1 1 (by decide) u (HV.out u))
    have cP := Lib.hid (fun u => qpart_c (.pointer none) [] (fun c hc => (by cases hc)) tpb 1 (by decide) u (HV.out u))
    have cG := Lib.hid (fun u => qgiven_none u)
    have cF := Lib.hid (fun u => same_zero u)
    rw [nil_u] at cU cT cP
    rw [nil_sp] at cS
    rw [fx_zero] at cP
    rw [show ((0 : Nat) : Int) = 0 from rfl, exact_no] at cT
    clear hcomp2 hck hz hcn HC HCT hcl
    go_enter Try.func3, Try.ntmps3
    go_wp2_with (first
      | (go_at_call 5; ((with_reducible refine (HC2.out _ HB0.out).mono ?_); rintro e w1 (⟨_, rfl, hb1⟩ | ⟨hn, _⟩); rotate_left; exact absurd hn HZ.out; have K1 := Lib.hid (HB0.out.trans (hb1.mono HB0.out.size)); clear hb1))
      | (go_at_call 6; (with_reducible refine (cN.out _).mono ?_); rintro e w' ⟨rfl, rfl⟩)
      | (go_at_call 7; (with_reducible refine (cC.out _).mono ?_); rintro e w' ⟨rfl, rfl⟩)
      | (go_at_call 8; (with_reducible refine (cU.out w1).mono ?_); rintro e w2 ⟨rfl, hb2⟩; have K2 := Lib.hid (K1.out.trans (hb2.mono K1.out.size)); clear hb2)
      | (go_at_call 9; (with_reducible refine (cS.out w2).mono ?_); rintro e w3 ⟨rfl, hb3⟩; have K3 := Lib.hid (K2.out.trans (hb3.mono K2.out.size)); clear hb3)
      | (go_at_call 10; (with_reducible refine (cT.out w3).mono ?_); rintro e w4 ⟨rfl, hb4⟩; have K4 := Lib.hid (K3.out.trans (hb4.mono K3.out.size)); clear hb4)
      | (go_at_call 12; (with_reducible refine (cG.out _).mono ?_); rintro e w' ⟨rfl, rfl⟩)
      | (go_at_call 11; (with_reducible refine (cF.out _).mono ?_); rintro e w' ⟨rfl, rfl⟩)
      | (go_at_call 13; (with_reducible refine (cP.out w4).mono ?_); rintro e w5 ⟨rfl, hb5⟩; have K5 := Lib.hid (K4.out.trans (hb5.mono K4.out.size)); clear hb5)
      | (go_at_call 14; (with_reducible refine (lives20 _).mono ?_); rintro e w6 ⟨rfl, hb6⟩; have K6 := Lib.hid (K5.out.trans (hb6.mono K5.out.size)); clear hb6))
    go_ret
    exact ⟨rfl, K6.out⟩
end Go.Proofs.Ytdankjhjmaehiaa.Qu
