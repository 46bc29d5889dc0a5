/- The law TreeHolds. -/
import Derived.Test.YtdoemgccmjddcaaTp6
import Derived.Test.YtdoemgccmjddcaaTr12
namespace Go.Proofs.Ytdoemgccmjddcaa.Tr
open Go.RowKit Go.Maps Go.Proofs.Ytdoemgccmjddcaa.Wd Go.Proofs.Ytdoemgccmjddcaa.Li Go.Proofs.Ytdoemgccmjddcaa.Mp Go.Proofs.Ytdoemgccmjddcaa.Tp Go.Proofs.Ytdoemgccmjddcaa.Cl Go.Proofs.Ytdoemgccmjddcaa.So Go.Proofs.Ytdoemgccmjddcaa.Sw
attribute [local go_sem] run_store_float

theorem levelS_in {l : List Cls} {i : Int} (h : i ∈ ids l) : levelS l i = level l i := by unfold levelS; rw [if_pos h]
theorem leaves_snoc {l : List Cls} {k : Nat} {x : Cls} (hx : (sortC l)[k]? = some x) (h : (kids l x.id).length = 0) : (leavesP l (k + 1)).length = (leavesP l k).length + 1 := by rw [leavesP_in hx h]; simp
theorem leaf_kids {l : List Cls} {x : Cls} (G : Tp.Good l) (hx : x ∈ l) : leafB l x.id = decide ((kids l x.id).length = 0) := by unfold leafB; rw [at_is G hx]; rfl

set_option maxRecDepth 100000 in
set_option maxHeartbeats 1500000 in
theorem holds_t (A : Option Addr) (n c : Nat) (l : List Cls) (hs : ∀ x ∈ l, x.share < 18446744073709551616) (hcap : n ≤ c) (w : World) (hI : Holds w.heap.size w (.slice A n c) l) :
    Calls Try.prog 11 #[.slice A n c] w fun e w' => e = .returned (.bool true) ∧ Below w.heap.size w w' := by
  obtain ⟨rfl, _⟩ := holds_parts hI
  have HI := Lib.hid hI; have HS := Lib.hid hs
  have hncl := Lib.hid (nclass 1 w)
  unfold RetB at hncl
  clear hI hs
  go_enter Try.func11, Try.ntmps11
  have hnlf := Lib.hid (fun u => nleaf 1 u)
  unfold RetB at hnlf
  by_cases h64 : 64 < l.length
  · have h64z : (64 : Int) < (l.length : Int) := by omega
    clear h64
    go_wp2_with (first
      | (go_at_call 77; ((with_reducible refine (hncl.out).mono ?_); rintro e w1 ⟨rfl, hb1⟩; have HB1 := Lib.hid (hb1.alloc hb1.size (.cells #[.int .i64 0, .int .i64 0, .float .f64 0, .int .i64 0, .int .i64 0, .int .i64 0, .int .i64 0, .int .i64 0, .int .i64 0, .bool false, .bool false] 64)); clear hb1))
      | (go_at_call 70; ((with_reducible refine (nlen _).mono ?_); rintro e w' ⟨rfl, rfl⟩))
      | (go_at_call 71; ((with_reducible refine (nroot_c _).mono ?_); rintro e w' ⟨rfl, rfl⟩))
      | (go_at_call 81; ((with_reducible refine (nlevel _ _).mono ?_); rintro e w' ⟨rfl, rfl⟩))
      | (go_at_call 73; ((with_reducible refine (nids _).mono ?_); rintro e w' ⟨rfl, rfl⟩))
      | (go_at_call 75; ((with_reducible refine (nleaves _).mono ?_); rintro e w' ⟨rfl, rfl⟩))
      | (go_at_call 78; ((with_reducible refine (nchildren _ _).mono ?_); rintro e w' ⟨rfl, rfl⟩))
      | (go_at_call 80; ((with_reducible refine (hnlf.out _).mono ?_); rintro e w2 ⟨rfl, hb2⟩; have HB2 := Lib.hid (HB1.out.trans (hb2.mono HB1.out.size)); clear hb2))
      | (go_at_call 67; ((with_reducible refine (lives18 _).mono ?_); rintro e w3 ⟨rfl, hb3⟩; have HB3 := Lib.hid (HB2.out.trans (hb3.mono HB2.out.size)); clear hb3)))
    go_ret
    exact ⟨rfl, HB3.out⟩
  have h64z : ¬ (64 : Int) < (l.length : Int) := by omega
  go_upto_region 5 with (first
    | (go_at_call 77; ((with_reducible refine (hncl.out).mono ?_); rintro e w1 ⟨rfl, hb1⟩; have HB1 := Lib.hid (hb1.alloc hb1.size (.cells #[.int .i64 0, .int .i64 0, .float .f64 0, .int .i64 0, .int .i64 0, .int .i64 0, .int .i64 0, .int .i64 0, .int .i64 0, .bool false, .bool false] 64)); clear hb1))
    | (go_at_call 70; ((with_reducible refine (nlen _).mono ?_); rintro e w' ⟨rfl, rfl⟩))
    | (go_at_call 71; ((with_reducible refine (nroot_c _).mono ?_); rintro e w' ⟨rfl, rfl⟩))
    | (go_at_call 81; ((with_reducible refine (nlevel _ _).mono ?_); rintro e w' ⟨rfl, rfl⟩))
    | (go_at_call 73; ((with_reducible refine (nids _).mono ?_); rintro e w' ⟨rfl, rfl⟩))
    | (go_at_call 75; ((with_reducible refine (nleaves _).mono ?_); rintro e w' ⟨rfl, rfl⟩))
    | (go_at_call 78; ((with_reducible refine (nchildren _ _).mono ?_); rintro e w' ⟨rfl, rfl⟩))
    | (go_at_call 80; ((with_reducible refine (hnlf.out _).mono ?_); rintro e w2 ⟨rfl, hb2⟩; have HB2 := Lib.hid (HB1.out.trans (hb2.mono HB1.out.size)); clear hb2)))
  have hcomp := Lib.hid (compile_c A l.length c l HS.out (by omega) hcap w2 (holds_next HI.out HB2.out))
  have hw2 := HB2.out.size
  by_cases hz : chk l = 0
  · have R := Lib.hid (chk_tree hz)
    have HZ := Lib.hid hz
    clear hz
    go_upto_region 9 with (go_at_call 68; ((with_reducible refine (hcomp.out).mono ?_); rintro e w3 (⟨hn, _⟩ | ⟨_, T, rfl, hT, hTw, hb3⟩); exact absurd HZ.out hn; have HT3 := Lib.hid hT; have HB3 := Lib.hid (HB2.out.trans (hb3.mono hw2)); clear hT hb3))
    have hw3 := HB3.out.size
    have h64 := R.out.le
    have HTu := Lib.hid (fun u (hu : Below w3.heap.size w3 u) => (HT3.out.below hu).up hu.size)
    have hl0 := Lib.hid (tids_c T l h64 w3 HT3.out)
    have hil := Lib.hid (ids_len l)
    have hSL := Lib.hid (sortC_len l)
    unfold ListOk at hl0
    rw [hil.out] at hl0
    clear HT3 hcomp hncl hnlf
    go_wp2_with (go_at_call 73; ((with_reducible refine (hl0.out).mono ?_); rintro e w4 ⟨A4, c4, rfl, hs4, hb4⟩; have S4 := Lib.hid hs4; have K4 := Lib.hid hb4; clear hs4 hb4))
    have hk4 := K4.out.size
    go_loopg [8, 9, 75] l.length (fun kx s8 s9 s75 wr => ∃ k : Nat, s75 = .int .i64 k ∧ s8 = .int .i64 (metS l k) ∧ s9 = .int .i64 ((leavesP l k).length) ∧ k ≤ l.length ∧ l.length - k ≤ kx ∧ Hid (Below w4.heap.size w4 wr))
    case atStart => exact ⟨0, rfl, rfl, rfl, by omega, by omega, Lib.hid (Below.refl _ _)⟩
    case round =>
      obtain ⟨k, rfl, rfl, rfl, hk, hkx, HW⟩ := hrel
      have hwz := HW.out.size
      have HWw := Lib.hid (K4.out.trans (HW.out.mono hk4))
      by_cases hlt : k < l.length
      · have hltz : (k : Int) < (l.length : Int) := by omega
        obtain ⟨x, hx⟩ : ∃ x, (sortC l)[k]? = some x := ⟨_, List.getElem?_eq_getElem (by rw [hSL.out]; exact hlt)⟩
        obtain ⟨a, u, rfl, hab, hu, hc⟩ := (S4.out.below HW.out).cell1 (k := k) hlt
        unfold St.I at hu
        simp only [List.getElem?_map] at hu
        obtain ⟨y, hy0, rfl⟩ := Option.map_eq_some_iff.1 hu
        rw [id_at hx] at hy0
        obtain rfl : x.id = y := by injection hy0
        have hxl := sort_at hx
        have hxi : x.id ∈ ids l := List.mem_map.2 ⟨x, hxl, rfl⟩
        have hxp := R.out.good.pos x hxl
        have hwf := wf_id (i := x.id) (by omega)
        have hmet := Lib.hid (metS_succ (l := l) (k := k) (id_at hx))
        have hml := met_le R.out k (by rw [hSL.out]; omega)
        have hol := leavesP_len l k
        have HX := Lib.hid hx; have HXI := Lib.hid hxi; have HXL := Lib.hid hxl
        have hch := Lib.hid (tchildren_c T l h64 x.id hwf wr (HTu.out wr HWw.out))
        unfold ListOk at hch
        have hkl := kids_len l x.id
        clear hx hxi hxl hu hy0
        go_wp2_with (go_at_call 78; ((with_reducible refine (hch.out).mono ?_); rintro e w5 ⟨A5, c5, rfl, hs5, hb5⟩; have S5 := Lib.hid hs5; have K5 := Lib.hid (HWw.out.trans (hb5.mono HWw.out.size)); have HW5 := Lib.hid (HW.out.trans (hb5.mono hwz)); clear hs5 hb5))
        have hk5 := K5.out.size
        have hm0 : ((metS l k : Nat) : Int) = ((metS l k + 0 : Nat) : Int) := by simp
        have HM0 := Lib.hid hm0
        clear hm0
        go_loopg [8, 83] (kids l x.id).length (fun kx s8 s83 wq => ∃ j : Nat, s83 = .int .i64 j ∧ s8 = .int .i64 ((metS l k + j : Nat) : Int) ∧ j ≤ (kids l x.id).length ∧ (kids l x.id).length - j ≤ kx ∧ Hid (Below w5.heap.size w5 wq))
        case atStart => exact ⟨0, rfl, by rw [HM0.out], by omega, by omega, Lib.hid (Below.refl _ _)⟩
        case round =>
          obtain ⟨j, rfl, rfl, hj, hjx, HQ⟩ := hrel
          have hqz := HQ.out.size
          have HQw := Lib.hid (K5.out.trans (HQ.out.mono hk5))
          clear hc
          by_cases hjl : j < (kids l x.id).length
          · have hjz : (j : Int) < ((kids l x.id).length : Int) := by omega
            obtain ⟨d, hd⟩ : ∃ d, (kids l x.id)[j]? = some d := ⟨_, List.getElem?_eq_getElem hjl⟩
            obtain ⟨a2, u2, rfl, hab2, hu2, hc2⟩ := (S5.out.below HQ.out).cell1 (k := j) hjl
            unfold St.I at hu2
            simp only [List.getElem?_map] at hu2
            obtain ⟨d', hd', rfl⟩ := Option.map_eq_some_iff.1 hu2
            rw [hd] at hd'
            obtain rfl : d = d' := by injection hd'
            have hdm : d ∈ kids l x.id := List.mem_of_getElem? hd
            obtain ⟨y, hya, hyp, hyr⟩ := kid_at R.out hdm
            have hdi := kids_ids hdm
            have hdp := ids_pos R.out.good hdi
            have hwfd := wf_id (i := d) (by omega)
            have hlk := level_kid R.out HXI.out hdm
            have hcl := Lib.hid (tclass_c T l d hwfd wr (HTu.out wr HQw.out))
            unfold ClassOk at hcl
            rw [hya] at hcl
            simp only [Option.getD_some, Option.isSome_some] at hcl
            unfold clsV at hcl
            have hlv1 := Lib.hid (fun u (hu : TreeAt u u.heap.size T l) => tlevel_c T l d hwfd u.heap.size u hu)
            have hlv2 := Lib.hid (fun u (hu : TreeAt u u.heap.size T l) => tlevel_c T l x.id hwf u.heap.size u hu)
            rw [levelS_in hdi] at hlv1
            rw [levelS_in HXI.out] at hlv2
            have hrt := Lib.hid (fun u (hu : TreeAt u u.heap.size T l) => troot_c T l u.heap.size u hu)
            have e1 : (y.parent != x.id) = false := by rw [bne_eq_false_iff_eq]; exact hyp
            have e2 : decide (level l x.id ≤ level l d) = false := decide_eq_false (by omega)
            have e3 : (d == rootS l) = false := by rw [beq_eq_false_iff_ne]; exact hyr
            clear hd hu2 hd' hdm hya hyp hyr hdi hlk
            generalize level l x.id = lx at *
            generalize level l d = ld at *
            generalize rootS l = rt at *
            go_wp2_with (first
              | (go_at_call 77; ((with_reducible refine (hcl.out).mono ?_); rintro e w6 ⟨rfl, hb6⟩; have K6 := Lib.hid (HQw.out.trans (hb6.mono HQw.out.size)); have HQ6 := Lib.hid ((HQ.out.trans (hb6.mono hqz)).alloc (by have := hb6.size; omega) (.cells #[.int .i64 y.id, .int .i64 y.parent, .float .f64 y.share, .int .i64 y.prio, .int .i64 y.quantum, .int .i64 y.limit, .int .i64 y.weight, .int .i64 y.minIdle, .int .i64 y.maxIdle, .bool y.bounded, .bool y.isolated] 64)); have K6a := Lib.hid (K6.out.alloc K6.out.size (.cells #[.int .i64 y.id, .int .i64 y.parent, .float .f64 y.share, .int .i64 y.prio, .int .i64 y.quantum, .int .i64 y.limit, .int .i64 y.weight, .int .i64 y.minIdle, .int .i64 y.maxIdle, .bool y.bounded, .bool y.isolated] 64)); clear hb6))
              | (go_at_call 81; ((with_reducible refine (hlv1.out _ (HTu.out _ K6a.out)).mono ?_); rintro e w' ⟨rfl, rfl⟩))
              | (go_at_call 81; ((with_reducible refine (hlv2.out _ (HTu.out _ K6a.out)).mono ?_); rintro e w' ⟨rfl, rfl⟩))
              | (go_at_call 71; ((with_reducible refine (hrt.out _ (HTu.out _ K6a.out)).mono ?_); rintro e w' ⟨rfl, rfl⟩)))
            go_roundg ((kids l x.id).length - (j + 1))
            case measure => omega
            case rel => exact ⟨j + 1, by go_num, by go_num, by omega, by omega, HQ6⟩
          · have hjz : ¬ (j : Int) < ((kids l x.id).length : Int) := by omega
            obtain rfl : j = (kids l x.id).length := by omega
            have hlf := Lib.hid (fun u (hu : TreeAt u u.heap.size T l) => tleaf_c T l x.id hwf u hu)
            have hlv2 := Lib.hid (fun u (hu : TreeAt u u.heap.size T l) => tlevel_c T l x.id hwf u.heap.size u hu)
            rw [levelS_in HXI.out] at hlv2
            have hll := leaf_level R.out HXI.out
            have hlk := leaf_kids R.out.good HXL.out
            by_cases h0 : (kids l x.id).length = 0
            · rw [hlk, decide_eq_true h0] at hlf
              have e1 : (level l x.id == 1) = true := by rw [← hll, hlk]; exact decide_eq_true h0
              have HLS := Lib.hid (leaves_snoc HX.out h0)
              clear hll hlk h0
              generalize level l x.id = lx at *
              go_wp2_with (first
                | (go_at_call 80; ((with_reducible refine (hlf.out wr (HTu.out wr HQw.out)).mono ?_); rintro e w7 ⟨rfl, hb7⟩; have K7 := Lib.hid (HQw.out.trans (hb7.mono HQw.out.size)); have HQ7 := Lib.hid (HQ.out.trans (hb7.mono hqz)); clear hb7))
                | (go_at_call 81; ((with_reducible refine (hlv2.out _ (HTu.out _ K7.out)).mono ?_); rintro e w' ⟨rfl, rfl⟩))
                | (go_at_call 80; ((with_reducible refine (hlf.out w7 (HTu.out w7 K7.out)).mono ?_); rintro e w8 ⟨rfl, hb8⟩; have HQ8 := Lib.hid (HQ7.out.trans (hb8.mono HQ7.out.size)); clear hb8)))
              go_roundg (l.length - (k + 1))
              case measure => omega
              case rel => exact ⟨k + 1, by go_num, by rw [hmet.out]; go_num, by rw [HLS.out]; go_num, by omega, by omega, Lib.hid (HW5.out.trans (HQ8.out.mono HW5.out.size))⟩
            · rw [hlk, decide_eq_false h0] at hlf
              have e1 : (level l x.id == 1) = false := by rw [← hll, hlk]; exact decide_eq_false h0
              have HLS := Lib.hid (leavesP_out HX.out h0)
              clear hll hlk h0
              generalize level l x.id = lx at *
              go_wp2_with (first
                | (go_at_call 80; ((with_reducible refine (hlf.out wr (HTu.out wr HQw.out)).mono ?_); rintro e w7 ⟨rfl, hb7⟩; have K7 := Lib.hid (HQw.out.trans (hb7.mono HQw.out.size)); have HQ7 := Lib.hid (HQ.out.trans (hb7.mono hqz)); clear hb7))
                | (go_at_call 81; ((with_reducible refine (hlv2.out _ (HTu.out _ K7.out)).mono ?_); rintro e w' ⟨rfl, rfl⟩))
                | (go_at_call 80; ((with_reducible refine (hlf.out w7 (HTu.out w7 K7.out)).mono ?_); rintro e w8 ⟨rfl, hb8⟩; have HQ8 := Lib.hid (HQ7.out.trans (hb8.mono HQ7.out.size)); clear hb8)))
              go_roundg (l.length - (k + 1))
              case measure => omega
              case rel => exact ⟨k + 1, by go_num, by rw [hmet.out]; go_num, by rw [HLS.out], by omega, by omega, Lib.hid (HW5.out.trans (HQ8.out.mono HW5.out.size))⟩
      · have hltz : ¬ (k : Int) < (l.length : Int) := by omega
        obtain rfl : k = l.length := by omega
        have hm : ((metS l l.length : Nat) : Int) = (l.length : Int) - 1 := by
          have h1 := met_all R.out
          rw [hSL.out] at h1
          have := R.out.ne
          rw [h1]; omega
        have hlp : leavesP l l.length = leavesS l := by rw [← hSL.out]; exact leavesP_all l
        have hne := R.out.ne
        have hsl := some_leaf R.out
        rw [hm, hlp]
        have hrl : levelS l (rootS l) = level l (rootS l) := levelS_in (root_mem R.out.root)
        have hrp := ids_pos R.out.good (root_mem R.out.root)
        have hwfr := wf_id (i := rootS l) (by omega)
        have hlen := Lib.hid (tlen_c T l h64 wr (HTu.out wr HWw.out))
        have hlvs := Lib.hid (fun u (hu : TreeAt u u.heap.size T l) => tleaves_c T l R.out u hu)
        unfold ListOk at hlvs
        have hrt := Lib.hid (fun u (hu : TreeAt u u.heap.size T l) => troot_c T l u.heap.size u hu)
        have hlv := Lib.hid (fun u (hu : TreeAt u u.heap.size T l) => tlevel_c T l (rootS l) hwfr u.heap.size u hu)
        rw [hrl] at hlv
        have hlow := R.out.low
        have e8 : decide (level l (rootS l) ≤ 8) = true := decide_eq_true hlow
        have e1 : decide ((1 : Int) ≤ ((leavesS l).length : Int)) = true := decide_eq_true (by omega)
        clear hm hlp hrl hlow hrp
        generalize level l (rootS l) = lr at *
        generalize rootS l = rt at *
        generalize (leavesS l).length = nl at *
        go_wp2_with (first
          | (go_at_call 70; ((with_reducible refine (hlen.out).mono ?_); rintro e w5 ⟨rfl, hb5⟩; have K5 := Lib.hid (HWw.out.trans (hb5.mono HWw.out.size)); clear hb5))
          | (go_at_call 75; ((with_reducible refine (hlvs.out w5 (HTu.out w5 K5.out)).mono ?_); rintro e w6 ⟨A6, c6, rfl, hs6, hb6⟩; have K6 := Lib.hid (K5.out.trans (hb6.mono K5.out.size)); clear hs6 hb6))
          | (go_at_call 71; ((with_reducible refine (hrt.out w6 (HTu.out w6 K6.out)).mono ?_); rintro e w' ⟨rfl, rfl⟩))
          | (go_at_call 81; ((with_reducible refine (hlv.out w6 (HTu.out w6 K6.out)).mono ?_); rintro e w' ⟨rfl, rfl⟩))
          | (go_at_call 67; ((with_reducible refine (lives18 _).mono ?_); rintro e w7 ⟨rfl, hb7⟩; have K7 := Lib.hid (K6.out.trans (hb7.mono K6.out.size)); clear hb7)))
        go_ret
        exact ⟨rfl, HB3.out.trans (K7.out.mono hw3)⟩
  · have HCK := Lib.hid hz
    have hck2 := hcomp.out
    unfold CompOk at hck2
    have hb0 : (chk l != 0) = true := by rw [bne_iff_ne]; exact hz
    generalize hck : chk l = ck at *
    have HC2 := Lib.hid hck2
    clear hz hck2 hck hcomp
    go_wp2_with (first
      | (go_at_call 68; ((with_reducible refine (HC2.out).mono ?_); rintro e w3 (⟨_, rfl, hb3⟩ | ⟨hn, _⟩); rotate_left; exact absurd hn HCK.out; have HB3 := Lib.hid (HB2.out.trans (hb3.mono hw2)); clear hb3))
      | (go_at_call 67; ((with_reducible refine (lives18 _).mono ?_); rintro e w4 ⟨rfl, hb4⟩; have HB4 := Lib.hid (HB3.out.trans (hb4.mono HB3.out.size)); clear hb4)))
    go_ret
    exact ⟨rfl, HB4.out⟩
end Go.Proofs.Ytdoemgccmjddcaa.Tr
