/- The law QuotaNests. -/
import Derived.Test.YtdankjhjmaehiaaQx2
namespace Go.Proofs.Ytdankjhjmaehiaa.Qu
open Go.RowKit Go.Maps Go.Proofs.Ytdankjhjmaehiaa.Fl Go.Proofs.Ytdankjhjmaehiaa.Wd Go.Proofs.Ytdankjhjmaehiaa.Li Go.Proofs.Ytdankjhjmaehiaa.Mp Go.Proofs.Ytdankjhjmaehiaa.Tp Go.Proofs.Ytdankjhjmaehiaa.Tr Go.Proofs.Ytdankjhjmaehiaa.Cl Go.Proofs.Ytdankjhjmaehiaa.So Go.Proofs.Ytdankjhjmaehiaa.Sw
attribute [local go_sem] run_store_float

/-- the units of the leaves among the first k -/
def lfP (l : List Cls) (k : Nat) : Nat := lf l ((ids (sortC l)).take k)
theorem lfP_succ {l : List Cls} {k : Nat} {y : Int} (h : (ids (sortC l))[k]? = some y) : lfP l (k + 1) = lfP l k + (if (kids l y).length = 0 then uAt l y else 0) := by
  unfold lfP
  rw [List.take_add_one, h, lf_app, show Option.toList (some y) = [y] from rfl, lf_cons]
  rfl
theorem lfP_all (l : List Cls) : lfP l (ids (sortC l)).length = (leafU l).sum := by
  unfold lfP leafU leavesS lf
  rw [List.take_length]
theorem lfP_le {l : List Cls} (hs : ∀ c ∈ l, c.share < 18446744073709551616) (h64 : l.length ≤ 64) (k : Nat) : lfP l k ≤ 67108864 := by
  unfold lfP lf
  have h1 := sum_le (uAt l) 1048576 (((ids (sortC l)).take k).filter (fun i => decide ((kids l i).length = 0))) (fun z _ => uAt_le hs z)
  have h2 : (((ids (sortC l)).take k).filter (fun i => decide ((kids l i).length = 0))).length ≤ (ids (sortC l)).length := Nat.le_trans (List.length_filter_le _ _) (List.length_take_le' _ _)
  rw [ids_len] at h2
  have h3 := Nat.mul_le_mul_right 1048576 (Nat.le_trans h2 h64)
  omega
theorem exact_ten {u v : Nat} (n : Int) (hv : 1 ≤ v) (hu : u ≤ 1048576) (h : v ≤ u) : exactS 10 (u : Int) n ≤ exactS 10 (v : Int) n := by
  unfold exactS
  have t : tpbB 10 = true := by decide
  rw [rate_tpb (tpb := 10) (by omega) hu, rate_tpb (tpb := 10) hv (by omega), t, if_pos rfl, if_pos rfl]
  exact up_mono (by omega) (by simpa using h)
theorem fx_leq {u v : Nat} (hv : v < 2 ^ 53) (h : u ≤ v) : (flt (fx u) (fx v) || feq (fx u) (fx v)) = true := by
  rw [fx_flt (by omega) hv]
  by_cases hq : u = v
  · subst hq; rw [fx_feq u hv]; simp
  · rw [decide_eq_true (by omega)]; rfl
set_option maxRecDepth 100000 in
set_option maxHeartbeats 4000000 in
theorem qnests_t (A : Option Addr) (n c : Nat) (l : List Cls) (x : Int) (hs : ∀ y ∈ l, y.share < 18446744073709551616) (hcap : n ≤ c) (w : World) (hI : Holds w.heap.size w (.slice A n c) l) :
    Calls Try.prog 4 #[.slice A n c, .int .i64 x] w fun e w' => e = .returned (.bool true) ∧ Below w.heap.size w w' := by
  obtain ⟨rfl, _⟩ := holds_parts hI
  have hct := holds_cut hI 65
  have hcl : (l.take 65).length = min 65 l.length := List.length_take
  have hcomp := compile_c A (l.take 65).length c (l.take 65) (fun x hx => hs x (List.mem_of_mem_take hx)) (by omega) (by omega) w hct
  have hmin : min (l.length : Int) 65 = ((l.take 65).length : Int) := by omega
  have hmc : ((l.take 65).length : Int) ≤ (c : Int) := by omega
  have HCT := Lib.hid (@cut_small l)
  have HI := Lib.hid hI
  have HS0 := Lib.hid hs
  clear hct hI hs
  obtain ⟨m, hm⟩ : ∃ m, m = l.take 65 := ⟨_, rfl⟩
  rw [← hm] at hcomp hmin hmc HCT hcl
  have HC := Lib.hid hcomp
  clear hcomp hm
  by_cases hz : chk m = 0
  · have R := Lib.hid (chk_tree hz)
    have HZ := Lib.hid hz
    have hml := HCT.out hz
    subst hml
    clear hz hcl
    go_enter Try.func4, Try.ntmps4
    go_upto_region 2 with (go_at_call 5; (with_reducible refine (HC.out).mono ?_); rintro e w1 (⟨hn, _⟩ | ⟨_, T, rfl, hT, hTw, hb1⟩); exact absurd HZ.out hn; have HT := Lib.hid hT; have HB1 := Lib.hid hb1; clear hT hb1)
    have hw1 := HB1.out.size
    have h64 := R.out.le
    have HTu := Lib.hid (fun u (hu : Below w1.heap.size w1 u) => (HT.out.below hu).up hu.size)
    have HN := Lib.hid (newq_c T m R.out HS0.out 10 w1 HT.out)
    unfold QNewOk at HN
    clear HC HCT HT HI
    cases hqb : quotaB m with
    | false =>
      have HQ := Lib.hid hqb
      clear hqb
      go_wp2_with (first
        | (go_at_call 6; (with_reducible refine (HN.out).mono ?_); rintro e w2 (⟨_, rfl, hb2⟩ | ⟨hn, _⟩ | ⟨hn, _⟩); rotate_left; exact absurd hn (by rw [HQ.out]; decide); exact absurd hn (by rw [HQ.out]; decide); have K2 := Lib.hid hb2; clear hb2)
        | (go_at_call 14; (with_reducible refine (lives20 _).mono ?_); rintro e w5 ⟨rfl, hb5⟩; have K5 := Lib.hid (K2.out.trans (hb5.mono K2.out.size)); clear hb5))
      go_ret
      exact ⟨rfl, HB1.out.trans (K5.out.mono hw1)⟩
    | true =>
      have HQ := Lib.hid hqb
      have HFI := Lib.hid (quota_all hqb)
      clear hqb
      have hil := ids_len m
      have HID := Lib.hid (fun u (hu : TreeAt u u.heap.size T m) => tids_c T m h64 u hu)
      unfold ListOk at HID
      have HMEM := Lib.hid (fun (i : Int) (h : i ∈ ids (sortC m)) => (sort_ids i).1 h)
      have HL0 : lfP m 0 = 0 := rfl
      have HLS := Lib.hid (fun (k : Nat) (y : Int) (h : (ids (sortC m))[k]? = some y) => lfP_succ h)
      have HLA := Lib.hid (lfP_all m)
      have HLB := Lib.hid (fun k => lfP_le HS0.out h64 k)
      obtain ⟨zs, hzs⟩ : ∃ zs, zs = ids (sortC m) := ⟨_, rfl⟩
      rw [← hzs] at HID HMEM HLS HLA hil
      clear hzs
      go_upto_region 7 with (first
        | (go_at_call 6; (with_reducible refine (HN.out).mono ?_); rintro e w2 (⟨hn, _⟩ | ⟨_, hn, _⟩ | ⟨_, _, q, rfl, hq, hql, hb2⟩); exact absurd hn (by rw [HQ.out]; decide); exact absurd hn (by decide); have HQQ := Lib.hid hq; have K2 := Lib.hid hb2; clear hb2 hq)
        | (go_at_call 21; (with_reducible refine (HID.out _ (HTu.out _ K2.out)).mono ?_); rintro e w3 ⟨A3, c3, rfl, hs3, hb3⟩; have S3 := Lib.hid hs3; have K3 := Lib.hid (K2.out.trans (hb3.mono K2.out.size)); have L3 := Lib.hid hb3; clear hs3 hb3))
      have hk3 := K3.out.size
      have hl3 := L3.out.size
      have HQu := Lib.hid (fun u (hu : Below w3.heap.size w3 u) => show QuotaV u u.heap.size (.pointer (some ⟨q, 0, none⟩)) m 10 from .inr ⟨q, rfl, (HQQ.out.below (L3.out.trans (hu.mono hl3))).up (Nat.le_trans hl3 hu.size)⟩)
      have HQa := Lib.hid (fun u (hu : Below w3.heap.size w3 u) => (HQQ.out.below (L3.out.trans (hu.mono hl3))).up (show w2.heap.size ≤ u.heap.size from Nat.le_trans hl3 hu.size))
      have HTv := Lib.hid (fun u (hu : Below w3.heap.size w3 u) => HTu.out u (K3.out.trans (hu.mono hk3)))
      clear HN HQQ HTu HID
      go_loopg [9, 38] zs.length (fun kx s9 s38 wr => ∃ k : Nat, s38 = .int .i64 k ∧ s9 = .int .i64 (lfP m k : Int) ∧ k ≤ zs.length ∧ zs.length - k ≤ kx ∧ Hid (Below w3.heap.size w3 wr))
      case atStart => exact ⟨0, rfl, rfl, by omega, by omega, Lib.hid (Below.refl _ _)⟩
      case round =>
        obtain ⟨k, rfl, rfl, hk, hkx, HW⟩ := hrel
        have hwz := HW.out.size
        by_cases hlt : k < zs.length
        · have hltz : (k : Int) < (zs.length : Int) := by omega
          obtain ⟨a, v, rfl, hab, hv, hc⟩ := (S3.out.below HW.out).cell1 (k := k) hlt
          unfold St.I at hv
          simp only [List.getElem?_map] at hv
          obtain ⟨y, hy0, rfl⟩ := Option.map_eq_some_iff.1 hv
          have hyi := HMEM.out y (List.mem_of_getElem? hy0)
          have hyp := ids_pos R.out.good hyi
          have hwfy : (Lit.int .i64 y).wf = true := wf_id (i := y) (by omega)
          have hls := HLS.out k y hy0
          have hlb := HLB.out k
          have hlb1 := HLB.out (k + 1)
          have hsp := spq_in hyi
          have hs1 := HFI.out y hyi
          have hs2 := spare_le m y
          rw [← hsp] at hs1 hs2
          have hu1 := uAt_pos R.out hyi
          have hu2 := uAt_le HS0.out y
          have cS := Lib.hid (fun u hu => qspare_c (.pointer (some ⟨q, 0, none⟩)) m 10 y hwfy u (HQu.out u hu))
          have cU := Lib.hid (fun u hu => qunits_c (.pointer (some ⟨q, 0, none⟩)) m 10 y hwfy u (HQu.out u hu))
          have cT := Lib.hid (fun u hu => qtime_c (.pointer (some ⟨q, 0, none⟩)) m 10 y x hwfy u (HQu.out u hu))
          have cL := Lib.hid (fun u hu => tleaf_c T m y hwfy u (HTv.out u hu))
          have cK := Lib.hid (fun u hu => tchildren_c T m h64 y hwfy u (HTv.out u hu))
          unfold ListOk at cK
          have hkl := kids_len m y
          have cTK := Lib.hid (fun d (hd : d ∈ kids m y) u hu => qtime_c (.pointer (some ⟨q, 0, none⟩)) m 10 d x (wf_id (i := d) (by have := ids_pos R.out.good (kids_ids hd); omega)) u (HQu.out u hu))
          have hge := Lib.hid (fun d (hd : d ∈ kids m y) => exact_ten x (uAt_pos R.out (kids_ids hd)) hu2 (kid_le HFI.out hyi hd))
          have hlk : leafB m y = decide ((kids m y).length = 0) := by
            obtain ⟨d, hd⟩ := at_of_mem hyi
            unfold leafB; rw [hd]; rfl
          rw [hlk] at cL
          have d1 : ¬ spQ m y < 0 := by omega
          have d2 : ¬ (uAt m y : Int) < spQ m y := by omega
          have d3 : ¬ (uAt m y : Int) < 1 := by omega
          have HLS1 := Lib.hid hls
          generalize spQ m y = sp at *
          generalize exactS 10 (uAt m y : Int) x = xt at *
          generalize uAt m y = uy at *
          clear hv hy0 hyi hyp hsp hs1 hs2 hlk
          generalize hks : kids m y = ks at *
          clear hks
          by_cases h0 : ks.length = 0
          · rw [decide_eq_true h0] at cL
            rw [if_pos h0] at hls HLS1
            go_wp2_with (first
              | (go_at_call 9; (with_reducible refine (cS.out wr HW.out).mono ?_); rintro e w5 ⟨rfl, hb5⟩; have K5 := Lib.hid (HW.out.trans (hb5.mono hwz)); clear hb5)
              | (go_at_call 9; (with_reducible refine (cS.out w5 K5.out).mono ?_); rintro e w6 ⟨rfl, hb6⟩; have K6 := Lib.hid (K5.out.trans (hb6.mono K5.out.size)); clear hb6)
              | (go_at_call 8; (with_reducible refine (cU.out w6 K6.out).mono ?_); rintro e w7 ⟨rfl, hb7⟩; have K7 := Lib.hid (K6.out.trans (hb7.mono K6.out.size)); clear hb7)
              | (go_at_call 8; (with_reducible refine (cU.out w7 K7.out).mono ?_); rintro e w8 ⟨rfl, hb8⟩; have K8 := Lib.hid (K7.out.trans (hb8.mono K7.out.size)); clear hb8)
              | (go_at_call 22; (with_reducible refine (cL.out w8 K8.out).mono ?_); rintro e w9 ⟨rfl, hb9⟩; have K9 := Lib.hid (K8.out.trans (hb9.mono K8.out.size)); clear hb9)
              | (go_at_call 8; (with_reducible refine (cU.out w9 K9.out).mono ?_); rintro e w10 ⟨rfl, hb10⟩; have K10 := Lib.hid (K9.out.trans (hb10.mono K9.out.size)); clear hb10)
              | (go_at_call 23; (with_reducible refine (cK.out w10 K10.out).mono ?_); rintro e w11 ⟨A11, c11, rfl, hs11, hb11⟩; have S11 := Lib.hid hs11; have K11 := Lib.hid (K10.out.trans (hb11.mono K10.out.size)); clear hs11 hb11))
            have hk11 := K11.out.size
            clear K5 K6 K7 K8 hc
            go_loopg [73] ks.length (fun kx s73 wq => ∃ j : Nat, s73 = .int .i64 j ∧ j ≤ ks.length ∧ ks.length - j ≤ kx ∧ Hid (Below w11.heap.size w11 wq))
            case atStart => exact ⟨0, rfl, by omega, by omega, Lib.hid (Below.refl _ _)⟩
            case round =>
              obtain ⟨j, rfl, hj, hjx, HQ⟩ := hrel
              have hqz := HQ.out.size
              have HQw := Lib.hid (K11.out.trans (HQ.out.mono hk11))
              by_cases hjl : j < ks.length
              · omega
              · have hjz : ¬ (j : Int) < (ks.length : Int) := by omega
                obtain rfl : j = ks.length := by omega
                go_wp2_with fail
                go_roundg (zs.length - (k + 1))
                case measure => omega
                case rel => exact ⟨k + 1, by go_num, by rw [HLS1.out]; go_num, by omega, by omega, HQw⟩
          · rw [decide_eq_false h0] at cL
            rw [if_neg h0] at hls HLS1
            go_wp2_with (first
              | (go_at_call 9; (with_reducible refine (cS.out wr HW.out).mono ?_); rintro e w5 ⟨rfl, hb5⟩; have K5 := Lib.hid (HW.out.trans (hb5.mono hwz)); clear hb5)
              | (go_at_call 9; (with_reducible refine (cS.out w5 K5.out).mono ?_); rintro e w6 ⟨rfl, hb6⟩; have K6 := Lib.hid (K5.out.trans (hb6.mono K5.out.size)); clear hb6)
              | (go_at_call 8; (with_reducible refine (cU.out w6 K6.out).mono ?_); rintro e w7 ⟨rfl, hb7⟩; have K7 := Lib.hid (K6.out.trans (hb7.mono K6.out.size)); clear hb7)
              | (go_at_call 8; (with_reducible refine (cU.out w7 K7.out).mono ?_); rintro e w8 ⟨rfl, hb8⟩; have K8 := Lib.hid (K7.out.trans (hb8.mono K7.out.size)); clear hb8)
              | (go_at_call 22; (with_reducible refine (cL.out w8 K8.out).mono ?_); rintro e w9 ⟨rfl, hb9⟩; have K9 := Lib.hid (K8.out.trans (hb9.mono K8.out.size)); clear hb9)
              | (go_at_call 23; (with_reducible refine (cK.out w9 K9.out).mono ?_); rintro e w11 ⟨A11, c11, rfl, hs11, hb11⟩; have S11 := Lib.hid hs11; have K11 := Lib.hid (K9.out.trans (hb11.mono K9.out.size)); clear hs11 hb11))
            have hk11 := K11.out.size
            clear K5 K6 K7 K8 hc
            go_loopg [73] ks.length (fun kx s73 wq => ∃ j : Nat, s73 = .int .i64 j ∧ j ≤ ks.length ∧ ks.length - j ≤ kx ∧ Hid (Below w11.heap.size w11 wq))
            case atStart => exact ⟨0, rfl, by omega, by omega, Lib.hid (Below.refl _ _)⟩
            case round =>
              obtain ⟨j, rfl, hj, hjx, HQ⟩ := hrel
              have hqz := HQ.out.size
              have HQw := Lib.hid (K11.out.trans (HQ.out.mono hk11))
              by_cases hjl : j < ks.length
              · have hjz : (j : Int) < (ks.length : Int) := by omega
                obtain ⟨a2, u2, rfl, hab2, hu2, hc2⟩ := (S11.out.below HQ.out).cell1 (k := j) hjl
                unfold St.I at hu2
                simp only [List.getElem?_map] at hu2
                obtain ⟨d, hd, rfl⟩ := Option.map_eq_some_iff.1 hu2
                have hdm := List.mem_of_getElem? hd
                have cD := Lib.hid (cTK.out d hdm)
                have hgd := hge.out d hdm
                clear hu2 hd hdm
                generalize exactS 10 (uAt m d : Int) x = xd at *
                have hll : ¬ (xd : Int) < (xt : Int) := by omega
                go_wp2_with (first
                  | (go_at_call 10; (with_reducible refine (cD.out _ HQw.out).mono ?_); rintro e w12 ⟨rfl, hb12⟩; have K12 := Lib.hid (HQw.out.trans (hb12.mono HQw.out.size)); have L12 := Lib.hid (HQ.out.trans (hb12.mono hqz)); clear hb12)
                  | (go_at_call 10; (with_reducible refine (cT.out w12 K12.out).mono ?_); rintro e w13 ⟨rfl, hb13⟩; have L13 := Lib.hid (L12.out.trans (hb13.mono L12.out.size)); clear hb13))
                go_roundg (ks.length - (j + 1))
                case measure => omega
                case rel => exact ⟨j + 1, by go_num, by omega, by omega, L13⟩
              · have hjz : ¬ (j : Int) < (ks.length : Int) := by omega
                obtain rfl : j = ks.length := by omega
                go_wp2_with fail
                go_roundg (zs.length - (k + 1))
                case measure => omega
                case rel => exact ⟨k + 1, by go_num, by rw [HLS1.out]; simp, by omega, by omega, HQw⟩
        · have hltz : ¬ (k : Int) < (zs.length : Int) := by omega
          obtain rfl : k = zs.length := by omega
          rw [HLA.out]
          have hrm := root_mem R.out.root
          have hrp := ids_pos R.out.good hrm
          have hwfr : (Lit.int .i64 (rootS m)).wf = true := wf_id (i := rootS m) (by omega)
          have hru := uAt_le HS0.out (rootS m)
          have hle : (leafU m).sum ≤ uAt m (rootS m) := leaves_sum R.out HFI.out
          have hlz : ((leafU m).sum : Int) ≤ (uAt m (rootS m) : Int) := by omega
          have cR := Lib.hid (fun u hu => troot_c T m u.heap.size u (HTv.out u hu))
          have cU := Lib.hid (fun u hu => qunits_c (.pointer (some ⟨q, 0, none⟩)) m 10 (rootS m) hwfr u (HQu.out u hu))
          have cP := Lib.hid (fun u hu => qpart_c (.pointer (some ⟨q, 0, none⟩)) m HS0.out 10 (rootS m) hwfr u (HQu.out u hu))
          have cG := Lib.hid (fun u hu => qgiven_c q m R.out HS0.out 10 u (HQa.out u hu))
          have hfl := fx_leq (u := (leafU m).sum) (v := uAt m (rootS m)) (by omega) hle
          generalize fx (leafU m).sum = z1 at *
          generalize fx (uAt m (rootS m)) = z2 at *
          generalize uAt m (rootS m) = ur at *
          generalize (leafU m).sum = us at *
          generalize rootS m = rt at *
          clear hrm hrp hle HLS HLA HLB
          go_wp2_with (first
            | (go_at_call 24; (with_reducible refine (cR.out wr HW.out).mono ?_); rintro e w' ⟨rfl, rfl⟩)
            | (go_at_call 8; (with_reducible refine (cU.out wr HW.out).mono ?_); rintro e w5 ⟨rfl, hb5⟩; have K5 := Lib.hid (HW.out.trans (hb5.mono hwz)); clear hb5)
            | (go_at_call 12; (with_reducible refine (cG.out w5 K5.out).mono ?_); rintro e w6 ⟨rfl, hb6⟩; have K6 := Lib.hid (K5.out.trans (hb6.mono K5.out.size)); clear hb6)
            | (go_at_call 24; (with_reducible refine (cR.out w6 K6.out).mono ?_); rintro e w' ⟨rfl, rfl⟩)
            | (go_at_call 13; (with_reducible refine (cP.out w6 K6.out).mono ?_); rintro e w7 ⟨rfl, hb7⟩; have K7 := Lib.hid (K6.out.trans (hb7.mono K6.out.size)); clear hb7)
            | (go_at_call 14; (with_reducible refine (lives20 _).mono ?_); rintro e w8 ⟨rfl, hb8⟩; have K8 := Lib.hid (K7.out.trans (hb8.mono K7.out.size)); clear hb8))
          go_ret
          exact ⟨rfl, HB1.out.trans ((K3.out.trans (K8.out.mono hk3)).mono hw1)⟩
  · obtain ⟨ck, hck⟩ : ∃ ck, ck = chk m := ⟨_, rfl⟩
    have hcn : ck ≠ 0 := by rw [hck]; exact hz
    have hb0 : (ck != 0) = true := by rw [bne_iff_ne]; exact hcn
    have HZ := Lib.hid hcn
    have hcomp2 := HC.out
    unfold CompOk at hcomp2
    rw [← hck] at hcomp2
    have HC2 := Lib.hid hcomp2
    have cN := Lib.hid (fun u => qnew_none 10 u)
    clear hcomp2 hck hz hcn HC HCT hcl
    go_enter Try.func4, Try.ntmps4
    go_wp2_with (first
      | (go_at_call 5; ((with_reducible refine (HC2.out).mono ?_); rintro e w1 (⟨_, rfl, hb1⟩ | ⟨hn, _⟩); rotate_left; exact absurd hn HZ.out; have K1 := Lib.hid hb1; clear hb1))
      | (go_at_call 6; (with_reducible refine (cN.out _).mono ?_); rintro e w' ⟨rfl, rfl⟩)
      | (go_at_call 14; (with_reducible refine (lives20 _).mono ?_); rintro e w6 ⟨rfl, hb6⟩; have K6 := Lib.hid (K1.out.trans (hb6.mono K1.out.size)); clear hb6))
    go_ret
    exact ⟨rfl, K6.out⟩
end Go.Proofs.Ytdankjhjmaehiaa.Qu
