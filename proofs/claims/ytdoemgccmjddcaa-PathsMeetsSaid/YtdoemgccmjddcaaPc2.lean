/- The law PathsTells. -/
import Derived.Test.YtdoemgccmjddcaaPx2
import Derived.Test.YtdoemgccmjddcaaPb6
namespace Go.Proofs.Ytdoemgccmjddcaa.Pa
open Go.RowKit Go.Maps Go.Proofs.Ytdoemgccmjddcaa.Wd Go.Proofs.Ytdoemgccmjddcaa.Li Go.Proofs.Ytdoemgccmjddcaa.Mp Go.Proofs.Ytdoemgccmjddcaa.Tp Go.Proofs.Ytdoemgccmjddcaa.Tr Go.Proofs.Ytdoemgccmjddcaa.Cl Go.Proofs.Ytdoemgccmjddcaa.So Go.Proofs.Ytdoemgccmjddcaa.Sw
attribute [local go_sem] run_store_float

theorem holds_cut {N : Nat} {w : World} {A : Option Addr} {c : Nat} {l : List Cls} (h : Holds N w (.slice A l.length c) l) (k : Nat) : Holds N w (.slice A (l.take k).length c) (l.take k) := by
  by_cases h0 : 0 < l.length
  · obtain ⟨_, hcs⟩ := holds_parts h
    obtain ⟨b, off, rfl, _⟩ := hcs h0
    by_cases hk : k ≤ l.length
    · have := holds_take h hk c
      rwa [List.length_take, Nat.min_eq_left hk]
    · rw [List.take_of_length_le (by omega)]; exact h
  · obtain rfl : l = [] := List.eq_nil_of_length_eq_zero (by omega)
    simpa using h
/-- what Compile says of the first 65 -/
theorem cut_small {l : List Cls} (h : chk (l.take 65) = 0) : l.take 65 = l := by
  have := (chk_tree h).le
  rw [List.length_take] at this
  exact List.take_of_length_le (by omega)

theorem nil_wids (a : Int) : wids [] a = [] := wids_none rfl
theorem nil_under (a b : Int) : underS [] a b = false := by unfold underS; rw [nil_wids]; rfl
theorem nil_meet (a b : Int) : meetS [] a b = 0 := by unfold meetS; rw [nil_wids]; rfl
theorem nil_below (a : Int) : belowS [] a = [] := by
  have h : leavesS [] = [] := List.eq_nil_of_length_eq_zero (Nat.le_zero.1 (leaves_len []))
  unfold belowS; rw [h]; rfl
theorem nil_apart (a b : Int) : apartS [] a b = false := by unfold apartS; rw [way_none rfl]; rfl
theorem below_len (l : List Cls) (F : Fit l) (id : Int) : (belowS l id).length ≤ 64 := Nat.le_trans (List.length_filter_le _ _) (Nat.le_trans (leaves_len l) F.le)

set_option maxRecDepth 100000 in
set_option maxHeartbeats 2000000 in
theorem tells_t (A : Option Addr) (n c : Nat) (l : List Cls) (a b : Int) (hs : ∀ x ∈ l, x.share < 18446744073709551616) (hcap : n ≤ c) (hida : (Lit.int .i64 a).wf = true) (hidb : (Lit.int .i64 b).wf = true) (w : World) (hI : Holds w.heap.size w (.slice A n c) l) :
    Calls Try.prog 13 #[.slice A n c, .int .i64 a, .int .i64 b] w fun e w' => e = .returned (.bool true) ∧ Below w.heap.size w w' := by
  obtain ⟨rfl, _⟩ := holds_parts hI
  have hct := holds_cut hI 65
  have hcl : (l.take 65).length = min 65 l.length := List.length_take
  have hcomp := compile_c A (l.take 65).length c (l.take 65) (fun x hx => hs x (List.mem_of_mem_take hx)) (by omega) (by omega) w hct
  have hmin : min (l.length : Int) 65 = ((l.take 65).length : Int) := by omega
  have hmc : ((l.take 65).length : Int) ≤ (c : Int) := by omega
  have HCT := Lib.hid (@cut_small l)
  have HI := Lib.hid hI
  clear hct hI hs
  obtain ⟨m, hm⟩ : ∃ m, m = l.take 65 := ⟨_, rfl⟩
  rw [← hm] at hcomp hmin hmc HCT hcl
  have HC := Lib.hid hcomp
  clear hcomp hm
  by_cases hz : chk m = 0
  · have R := Lib.hid (chk_tree hz)
    have HZ := Lib.hid hz
    have hml := HCT.out hz
    subst hml
    clear hz hcl
    go_enter Try.func13, Try.ntmps13
    go_upto_region 4 with (go_at_call 68; (with_reducible refine (HC.out).mono ?_); rintro e w1 (⟨hn, _⟩ | ⟨_, T, rfl, hT, hTw, hb1⟩); exact absurd HZ.out hn; have HT := Lib.hid hT; have HB1 := Lib.hid hb1; clear hT hb1)
    have hw1 := HB1.out.size
    have hwl := wids_len m a
    have hll := lend_len m a
    have hbl := below_len m (.inr R.out) a
    have HV := Lib.hid (fun u (hu : Below w1.heap.size w1 u) => show TreeV u u.heap.size (.pointer (some ⟨T, 0, none⟩)) m from .inr ⟨T, rfl, (HT.out.below hu).up hu.size, R.out⟩)
    have HIu := Lib.hid (fun u (hu : Below w1.heap.size w1 u) => holds_next HI.out (HB1.out.trans (hu.mono hw1)))
    have h1 := Lib.hid (refpath_c A c m (.inr R.out) 65 a (wids_len m a) w1 (HIu.out w1 (Below.refl _ _)))
    have h2 := Lib.hid (fun u hu => path_c m (some ⟨T, 0, none⟩) a hida u (HV.out u hu))
    have h3 := Lib.hid (fun u hu => under_c m (some ⟨T, 0, none⟩) a b hida u (HV.out u hu))
    have h4 := Lib.hid (fun u hu => meet_c m (some ⟨T, 0, none⟩) a b hida hidb u (HV.out u hu))
    have h5 := Lib.hid (fun u hu => refmeet_c A c m (.inr R.out) a b u (HIu.out u hu))
    have h6 := Lib.hid (fun u hu => below_c m (some ⟨T, 0, none⟩) a hida u (HV.out u hu))
    have h7 := Lib.hid (fun u hu => refbelow_c A c m (.inr R.out) a u (HIu.out u hu))
    have h8 := Lib.hid (fun u hu => lenders_c m (some ⟨T, 0, none⟩) a hida u (HV.out u hu))
    have h9 := Lib.hid (fun u hu => reflend_c A c m (.inr R.out) 65 a (lend_len m a) u (HIu.out u hu))
    have h10 := Lib.hid (fun u hu => apart_c m (some ⟨T, 0, none⟩) a b hida hidb u (HV.out u hu))
    have h11 := Lib.hid (fun u hu => refapart_c A c m (.inr R.out) a b u (HIu.out u hu))
    have hun : underS m a b = decide (b ∈ wids m a) := rfl
    unfold PathOk at h1 h9
    unfold ListOk at h1 h2 h6 h7 h8 h9
    unfold RetB at h5 h11
    generalize hx1 : underS m a b = q at *
    generalize hx2 : meetS m a b = mt at *
    generalize hx3 : apartS m a b = ap at *
    generalize hx4 : wids m a = ps at *
    generalize hx5 : belowS m a = bs at *
    generalize hx6 : lendS m a = ls at *
    have HUN := Lib.hid hun
    have hqq : (q == q) = true := by simp
    have hmm : (mt == mt) = true := by simp
    have haa : (ap == ap) = true := by simp
    clear hx1 hx2 hx3 hx4 hx5 hx6 HT HC hun
    go_wp2_with (first
      | (go_at_call 92; ((with_reducible refine (h1.out).mono ?_); rintro e w2 ⟨⟨A2, c2, rfl, hs2, hb2⟩, hpx⟩; have S2 := Lib.hid hs2; have K2 := Lib.hid hb2; clear hs2 hb2 hpx))
      | (go_at_call 90; ((with_reducible refine (h2.out w2 K2.out).mono ?_); rintro e w3 ⟨A3, c3, rfl, hs3, hb3⟩; have S3 := Lib.hid hs3; have S23 := Lib.hid ((S2.out.below hb3).more hb3.size); have K3 := Lib.hid (K2.out.trans (hb3.mono K2.out.size)); clear hs3 hb3))
      | (go_at_call 32; ((with_reducible refine (same_two w3 _ _ _ _ ps _ rfl (by omega) S3.out S23.out).mono ?_); rintro e w4 ⟨rfl, hb4⟩; have S24 := Lib.hid ((S23.out.below hb4).more hb4.size); have K4 := Lib.hid (K3.out.trans (hb4.mono K3.out.size)); clear hb4))
      | (go_at_call 85; ((with_reducible refine (h3.out w4 K4.out).mono ?_); rintro e w5 ⟨rfl, hb5⟩; have hh5 := Lib.hid (has_c A2 c2 w4.heap.size ps b (by omega) w5 (S24.out.below hb5)); have K5 := Lib.hid (K4.out.trans (hb5.mono K4.out.size)); clear hb5))
      | (go_at_call 93; ((with_reducible refine (hh5.out).mono ?_); rw [← HUN.out]; rintro e w9 ⟨rfl, hw9⟩; subst w9))
      | (go_at_call 84; ((with_reducible refine (h4.out w5 K5.out).mono ?_); rintro e w6 ⟨rfl, hb6⟩; have K6 := Lib.hid (K5.out.trans (hb6.mono K5.out.size)); clear hb6))
      | (go_at_call 94; ((with_reducible refine (h5.out w6 K6.out).mono ?_); rintro e w7 ⟨rfl, hb7⟩; have K7 := Lib.hid (K6.out.trans (hb7.mono K6.out.size)); clear hb7))
      | (go_at_call 86; ((with_reducible refine (h6.out w7 K7.out).mono ?_); rintro e w8 ⟨A8, c8, rfl, hs8, hb8⟩; have S8 := Lib.hid hs8; have K8 := Lib.hid (K7.out.trans (hb8.mono K7.out.size)); clear hs8 hb8))
      | (go_at_call 95; ((with_reducible refine (h7.out w8 K8.out).mono ?_); rintro e w10 ⟨A10, c10, rfl, hs10, hb10⟩; have S10 := Lib.hid hs10; have S810 := Lib.hid ((S8.out.below hb10).more hb10.size); have K10 := Lib.hid (K8.out.trans (hb10.mono K8.out.size)); clear hs10 hb10))
      | (go_at_call 32; ((with_reducible refine (same_two w10 _ _ _ _ bs _ rfl (by omega) S810.out S10.out).mono ?_); rintro e w11 ⟨rfl, hb11⟩; have K11 := Lib.hid (K10.out.trans (hb11.mono K10.out.size)); clear hb11))
      | (go_at_call 87; ((with_reducible refine (h8.out w11 K11.out).mono ?_); rintro e w12 ⟨A12, c12, rfl, hs12, hb12⟩; have S12 := Lib.hid hs12; have K12 := Lib.hid (K11.out.trans (hb12.mono K11.out.size)); clear hs12 hb12))
      | (go_at_call 96; ((with_reducible refine (h9.out w12 K12.out).mono ?_); rintro e w13 ⟨⟨A13, c13, rfl, hs13, hb13⟩, hpx⟩; have S13 := Lib.hid hs13; have S1213 := Lib.hid ((S12.out.below hb13).more hb13.size); have K13 := Lib.hid (K12.out.trans (hb13.mono K12.out.size)); clear hs13 hb13 hpx))
      | (go_at_call 32; ((with_reducible refine (same_two w13 _ _ _ _ ls _ rfl (by omega) S1213.out S13.out).mono ?_); rintro e w14 ⟨rfl, hb14⟩; have K14 := Lib.hid (K13.out.trans (hb14.mono K13.out.size)); clear hb14))
      | (go_at_call 91; ((with_reducible refine (h10.out w14 K14.out).mono ?_); rintro e w15 ⟨rfl, hb15⟩; have K15 := Lib.hid (K14.out.trans (hb15.mono K14.out.size)); clear hb15))
      | (go_at_call 97; ((with_reducible refine (h11.out w15 K15.out).mono ?_); rintro e w16 ⟨rfl, hb16⟩; have K16 := Lib.hid (K15.out.trans (hb16.mono K15.out.size)); clear hb16))
      | (go_at_call 83; ((with_reducible refine (lives19 _).mono ?_); rintro e w17 ⟨rfl, hb17⟩; have K17 := Lib.hid (K16.out.trans (hb17.mono K16.out.size)); clear hb17)))
    go_ret
    exact ⟨rfl, HB1.out.trans (K17.out.mono hw1)⟩
  · obtain ⟨ck, hck⟩ : ∃ ck, ck = chk m := ⟨_, rfl⟩
    have HCK := Lib.hid hck
    have hcn : ck ≠ 0 := by rw [hck]; exact hz
    have hb0 : (ck != 0) = true := by rw [bne_iff_ne]; exact hcn
    have HZ := Lib.hid hcn
    have hcomp2 := HC.out
    unfold CompOk at hcomp2
    rw [← hck] at hcomp2
    have HC2 := Lib.hid hcomp2
    have HV := Lib.hid (fun (u : World) => show TreeV u u.heap.size (.pointer none) [] from .inl ⟨rfl, rfl⟩)
    have h2 := Lib.hid (fun u => path_c [] none a hida u (HV.out u))
    have h3 := Lib.hid (fun u => under_c [] none a b hida u (HV.out u))
    have h4 := Lib.hid (fun u => meet_c [] none a b hida hidb u (HV.out u))
    have h6 := Lib.hid (fun u => below_c [] none a hida u (HV.out u))
    have h8 := Lib.hid (fun u => lenders_c [] none a hida u (HV.out u))
    have h10 := Lib.hid (fun u => apart_c [] none a b hida hidb u (HV.out u))
    simp only [nil_wids, nil_under, nil_meet, nil_below, nil_apart, lend_absent (l := []) (a := a) rfl] at h2 h3 h4 h6 h8 h10
    unfold ListOk at h2 h6 h8
    clear hcomp2 hck hz hcn HC HCT hcl
    go_enter Try.func13, Try.ntmps13
    go_wp2_with (first
      | (go_at_call 68; ((with_reducible refine (HC2.out).mono ?_); rintro e w1 (⟨_, rfl, hb1⟩ | ⟨hn, _⟩); rotate_left; exact absurd hn HZ.out; have K1 := Lib.hid hb1; clear hb1))
      | (go_at_call 90; ((with_reducible refine (h2.out w1).mono ?_); rintro e w3 ⟨A3, c3, rfl, hs3, hb3⟩; have K3 := Lib.hid (K1.out.trans (hb3.mono K1.out.size)); clear hs3 hb3))
      | (go_at_call 85; ((with_reducible refine (h3.out w3).mono ?_); rintro e w5 ⟨rfl, hb5⟩; have K5 := Lib.hid (K3.out.trans (hb5.mono K3.out.size)); clear hb5))
      | (go_at_call 84; ((with_reducible refine (h4.out w5).mono ?_); rintro e w6 ⟨rfl, hb6⟩; have K6 := Lib.hid (K5.out.trans (hb6.mono K5.out.size)); clear hb6))
      | (go_at_call 86; ((with_reducible refine (h6.out w6).mono ?_); rintro e w8 ⟨A8, c8, rfl, hs8, hb8⟩; have K8 := Lib.hid (K6.out.trans (hb8.mono K6.out.size)); clear hs8 hb8))
      | (go_at_call 87; ((with_reducible refine (h8.out w8).mono ?_); rintro e w12 ⟨A12, c12, rfl, hs12, hb12⟩; have K12 := Lib.hid (K8.out.trans (hb12.mono K8.out.size)); clear hs12 hb12))
      | (go_at_call 91; ((with_reducible refine (h10.out w12).mono ?_); rintro e w15 ⟨rfl, hb15⟩; have K15 := Lib.hid (K12.out.trans (hb15.mono K12.out.size)); clear hb15))
      | (go_at_call 83; ((with_reducible refine (lives19 _).mono ?_); rintro e w17 ⟨rfl, hb17⟩; have K17 := Lib.hid (K15.out.trans (hb17.mono K15.out.size)); clear hb17)))
    go_ret
    exact ⟨rfl, K17.out⟩
end Go.Proofs.Ytdoemgccmjddcaa.Pa
