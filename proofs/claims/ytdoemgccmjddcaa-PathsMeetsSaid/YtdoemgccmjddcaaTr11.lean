/- The law TreeCompiles. -/
import Derived.Test.YtdoemgccmjddcaaTr10
namespace Go.Proofs.Ytdoemgccmjddcaa.Tr
open Go.RowKit Go.Maps Go.Proofs.Ytdoemgccmjddcaa.Wd Go.Proofs.Ytdoemgccmjddcaa.Li Go.Proofs.Ytdoemgccmjddcaa.Mp Go.Proofs.Ytdoemgccmjddcaa.Tp Go.Proofs.Ytdoemgccmjddcaa.Cl Go.Proofs.Ytdoemgccmjddcaa.So Go.Proofs.Ytdoemgccmjddcaa.Sw
attribute [local go_sem] run_store_float Lx.opX Rel.oneOk
attribute [local irreducible] Lx.wpX

set_option maxRecDepth 100000 in
set_option maxHeartbeats 1000000 in
theorem compiles_t (A : Option Addr) (n c : Nat) (l : List Cls) (id : Int) (hs : ∀ x ∈ l, x.share < 18446744073709551616) (hcap : n ≤ c) (hid : (Lit.int .i64 id).wf = true) (w : World) (hI : Holds w.heap.size w (.slice A n c) l) :
    Calls Try.prog 10 #[.slice A n c, .int .i64 id] w fun e w' => e = .returned (.bool true) ∧ Below w.heap.size w w' := by
  obtain ⟨rfl, hcs⟩ := holds_parts hI
  by_cases h70 : 70 < l.length
  · have h70z : (70 : Int) < (l.length : Int) := by omega
    clear hI hcs hs
    go_enter Try.func10, Try.ntmps10
    go_wp2_with (go_at_call 67; ((with_reducible refine (lives18 _).mono ?_); rintro e w1 ⟨rfl, hb1⟩))
    go_ret
    exact ⟨rfl, hb1⟩
  have h70z : ¬ (70 : Int) < (l.length : Int) := by omega
  have hcomp := Lib.hid (compile_c A l.length c l hs (by omega) hcap w hI)
  have hchk := Lib.hid (fun u (hu : Below w.heap.size w u) => refcheck_c A l.length c l hs (by omega) u (holds_next hI hu))
  have HI := Lib.hid hI; have HS := Lib.hid hs; have HCS := Lib.hid hcs
  clear hI hs hcs
  obtain ⟨ck, hck⟩ : ∃ ck, ck = chk l := ⟨_, rfl⟩
  unfold RetB at hchk
  rw [← hck] at hchk
  by_cases hz : ck = 0
  · have R := Lib.hid (chk_tree (hck.symm.trans hz))
    have HCK := Lib.hid (hck.symm.trans hz)
    subst hz
    clear hck
    go_enter Try.func10, Try.ntmps10
    go_upto_region 7 with (first
      | (go_at_call 68; ((with_reducible refine (hcomp.out).mono ?_); rintro e w3 (⟨hn, _⟩ | ⟨_, T, rfl, hT, hTw, hb3⟩); exact absurd HCK.out hn; have HT3 := Lib.hid hT; have HB3 := Lib.hid hb3; clear hT hb3))
      | (go_at_call 69; ((with_reducible refine (hchk.out _ HB3.out).mono ?_); rintro e w4 ⟨rfl, hb4⟩; have HB34 := Lib.hid hb4; clear hb4)))
    have HB4 := Lib.hid (HB3.out.trans (HB34.out.mono HB3.out.size))
    have hw4 := HB4.out.size
    have HTu := Lib.hid (fun u (hu : Below w4.heap.size w4 u) => ((HT3.out.below HB34.out).up HB34.out.size).below hu |>.up hu.size)
    have HIu := Lib.hid (fun u (hu : Below w4.heap.size w4 u) => holds_next HI.out (HB4.out.trans (hu.mono hw4)))
    have h64 := R.out.le
    clear HT3 HB34 HB3 hcomp hchk
    have hl0 := Lib.hid (tids_c T l h64)
    have hl1 := Lib.hid (refids_c A l.length c l (by omega))
    have hl2 := Lib.hid (tleaves_c T l R.out)
    have hl3 := Lib.hid (refleaves_c A c l (by omega))
    unfold ListOk at hl0 hl1 hl2 hl3
    have hidl := Lib.hid (ids_len l)
    have hlvl : Hid ((leavesS l).length ≤ 64) := Lib.hid (Nat.le_trans (List.length_filter_le _ _) (by rw [ids_len]; exact h64))
    generalize hx1 : ids (sortC l) = xs1 at *
    generalize hx2 : leavesS l = xs2 at *
    clear hx1 hx2
    go_upto_region 9 with (first
      | (go_at_call 70; ((with_reducible refine (tlen_c T l h64 w4 (HTu.out w4 (Below.refl _ _))).mono ?_); rintro e w5 ⟨rfl, hb5⟩; have K5 := Lib.hid hb5; clear hb5))
      | (go_at_call 71; ((with_reducible refine (troot_c T l _ w5 (HTu.out w5 K5.out)).mono ?_); rintro e w' ⟨rfl, rfl⟩))
      | (go_at_call 72; ((with_reducible refine (refroot_c A l.length c _ l (by omega) w5 (HIu.out w5 K5.out)).mono ?_); rintro e w' ⟨rfl, rfl⟩))
      | (go_at_call 73; ((with_reducible refine (hl0.out w5 (HTu.out w5 K5.out)).mono ?_); rintro e w6 ⟨A6, c6, rfl, hs6, hb6⟩; have S6 := Lib.hid hs6; have K6 := Lib.hid (K5.out.trans (hb6.mono K5.out.size)); clear hs6 hb6))
      | (go_at_call 74; ((with_reducible refine (hl1.out w6 (HIu.out w6 K6.out)).mono ?_); rintro e w7 ⟨A7, c7, rfl, hs7, hb7⟩; have S7 := Lib.hid hs7; have S67 := Lib.hid ((S6.out.below hb7).more hb7.size); have K7 := Lib.hid (K6.out.trans (hb7.mono K6.out.size)); clear hs7 hb7))
      | (go_at_call 32; ((with_reducible refine (same_two w7 _ _ _ _ xs1 _ rfl (by rw [hidl.out]; omega) S67.out S7.out).mono ?_); rintro e w8 ⟨rfl, hb8⟩; have K8 := Lib.hid (K7.out.trans (hb8.mono K7.out.size)); clear hb8))
      | (go_at_call 75; ((with_reducible refine (hl2.out w8 (HTu.out w8 K8.out)).mono ?_); rintro e w9 ⟨A9, c9, rfl, hs9, hb9⟩; have S9 := Lib.hid hs9; have K9 := Lib.hid (K8.out.trans (hb9.mono K8.out.size)); clear hs9 hb9))
      | (go_at_call 76; ((with_reducible refine (hl3.out w9 (HIu.out w9 K9.out)).mono ?_); rintro e w10 ⟨A10, c10, rfl, hs10, hb10⟩; have S10 := Lib.hid hs10; have S910 := Lib.hid ((S9.out.below hb10).more hb10.size); have K10 := Lib.hid (K9.out.trans (hb10.mono K9.out.size)); clear hs10 hb10))
      | (go_at_call 32; ((with_reducible refine (same_two w10 _ _ _ _ xs2 _ rfl (by have := hlvl.out; omega) S910.out S10.out).mono ?_); rintro e w11 ⟨rfl, hb11⟩; have K11 := Lib.hid (K10.out.trans (hb11.mono K10.out.size)); clear hb11)))
    have hcl := Lib.hid (fun u (hu : Below w4.heap.size w4 u) => tclass_c T l id hid u (HTu.out u hu))
    have hfi := Lib.hid (fun u (hu : Below w4.heap.size w4 u) => reffind_c A l.length c u.heap.size l id (by omega) u (HIu.out u hu))
    have hl4 := Lib.hid (fun u hu => tchildren_c T l h64 id hid u hu)
    have hl5 := Lib.hid (fun u hu => refchildren_c A l.length c l id (by omega) u hu)
    have hlf := Lib.hid (fun u hu => tleaf_c T l id hid u hu)
    have hlv := Lib.hid (fun u (hu : TreeAt u u.heap.size T l) => tlevel_c T l id hid u.heap.size u hu)
    have hkl := kids_len l id
    unfold ListOk at hl4 hl5
    unfold ClassOk at hcl
    have hf := find_at (zs := l) (id := id)
    cases ho : at? l id with
    | none =>
      have hm1 : findC l id = -1 := by
        rcases find_cases l id with ⟨h, _⟩ | ⟨i, x, _, hx, he, _⟩
        · exact h
        · exact absurd (List.mem_map.2 ⟨x, List.mem_of_getElem? hx, he⟩) (at_none.1 ho)
      have HIN := Lib.hid (at_none.1 ho)
      have hlb : leafB l id = false := by unfold leafB; rw [ho]; rfl
      have hls : levelS l id = 0 := by unfold levelS; rw [if_neg HIN.out]
      have hrl := Lib.hid (fun u (hu : Holds u.heap.size u (.slice A l.length c) l) => reflevel_none A l.length c l (by omega) id HIN.out u hu)
      unfold RetB at hrl
      rw [ho] at hcl
      rw [hm1] at hfi
      rw [hlb] at hlf
      rw [hls] at hlv
      simp only [Option.getD_none, Option.isSome_none] at hcl
      unfold clsV clsZ at hcl
      simp only at hcl
      clear ho hf hm1 hlb hls
      generalize hx3 : kids l id = xs3 at *
      clear hx3
      go_upto_region 11 with (first
        | (go_at_call 77; ((with_reducible refine (hcl.out w11 K11.out).mono ?_); rintro e w12 ⟨rfl, hb12⟩; have K12 := Lib.hid (K11.out.trans (hb12.mono K11.out.size)); clear hb12))
        | (go_at_call 51; ((with_reducible refine (hfi.out _ (K12.out.alloc K12.out.size _)).mono ?_); rintro e w13 ⟨rfl, rfl⟩)))
      have hk13 : Below w4.heap.size w4 (w12.alloc (.cells #[.int .i64 0, .int .i64 0, .float .f64 0, .int .i64 0, .int .i64 0, .int .i64 0, .int .i64 0, .int .i64 0, .int .i64 0, .bool false, .bool false] 64)).drew := (K12.out.alloc K12.out.size _).drew
      have K13 := Lib.hid hk13
      clear hk13
      refine Lx.wp_region_X 15 (fun w' => ∃ z, w' = Lx.kept (fun q => q = w12.heap.size) _ z) (fun i => i == 12) (by kernel_rfl) (by kernel_rfl) (Lx.kept_of (Lx.Keeps.refl _ _)) ?_
      simp only [List.take_succ_cons, List.take_zero, List.drop_succ_cons, List.drop_zero]
      repeat (refine Lx.wpX_step (fun K hK => ?_); first | (refine Lx.opX_free (by rfl) (by rfl) (by rfl) ?_; go_big_quiet_op; refine hK _ _ ?_; clear hK K) | (refine Lx.opX_skip (by rfl) ?_; refine hK _ _ ?_; clear hK K; simp only [Act.put, List.setIfInBounds_toArray, List.set_cons_succ, List.set_cons_zero]))
      refine Lx.wpX_nil ?_
      go_wp2_with (first
        | (go_at_call 78; ((with_reducible refine (hl4.out _ (HTu.out _ K13.out)).mono ?_); rintro e w14 ⟨A14, c14, rfl, hs14, hb14⟩; have S14 := Lib.hid hs14; have K14 := Lib.hid (K13.out.trans (hb14.mono K13.out.size)); clear hs14 hb14))
        | (go_at_call 79; ((with_reducible refine (hl5.out w14 (HIu.out w14 K14.out)).mono ?_); rintro e w15 ⟨A15, c15, rfl, hs15, hb15⟩; have S15 := Lib.hid hs15; have S1415 := Lib.hid ((S14.out.below hb15).more hb15.size); have K15 := Lib.hid (K14.out.trans (hb15.mono K14.out.size)); clear hs15 hb15))
        | (go_at_call 32; ((with_reducible refine (same_two w15 _ _ _ _ xs3 _ rfl (by omega) S1415.out S15.out).mono ?_); rintro e w16 ⟨rfl, hb16⟩; have K16 := Lib.hid (K15.out.trans (hb16.mono K15.out.size)); clear hb16))
        | (go_at_call 80; ((with_reducible refine (hlf.out w16 (HTu.out w16 K16.out)).mono ?_); rintro e w17 ⟨rfl, hb17⟩; have K17 := Lib.hid (K16.out.trans (hb17.mono K16.out.size)); clear hb17))
        | (go_at_call 79; ((with_reducible refine (hl5.out w17 (HIu.out w17 K17.out)).mono ?_); rintro e w18 ⟨A18, c18, rfl, hs18, hb18⟩; have K18 := Lib.hid (K17.out.trans (hb18.mono K17.out.size)); clear hs18 hb18))
        | (go_at_call 81; ((with_reducible refine (hlv.out w17 (HTu.out w17 K17.out)).mono ?_); rintro e w19 ⟨rfl, rfl⟩))
        | (go_at_call 82; ((with_reducible refine (hrl.out w17 (HIu.out w17 K17.out)).mono ?_); rintro e w20 ⟨rfl, hb20⟩; have K20 := Lib.hid (K17.out.trans (hb20.mono K17.out.size)); clear hb20))
        | (go_at_call 67; ((with_reducible refine (lives18 _).mono ?_); rintro e w21 ⟨rfl, hb21⟩; have K21 := Lib.hid (K20.out.trans (hb21.mono K20.out.size)); clear hb21)))
      go_ret
      exact ⟨rfl, HB4.out.trans (K21.out.mono hw4)⟩
    | some x =>
      obtain ⟨ix, hfx, hlx⟩ : ∃ ix : Nat, findC l id = ix ∧ l[ix]? = some x := by
        rcases hf with ⟨_, h⟩ | ⟨i, c', h1, h2, h3⟩
        · rw [ho] at h; cases h
        · rw [ho] at h3; cases h3; exact ⟨i, h1, h2⟩
      obtain ⟨hxm, hxi⟩ := at_mem ho
      have HIN : Hid (id ∈ ids l) := Lib.hid (List.mem_map.2 ⟨x, hxm, hxi⟩)
      have hlb : leafB l id = decide ((kids l id).length = 0) := by unfold leafB; rw [ho]; rfl
      have hls : levelS l id = level l id := by unfold levelS; rw [if_pos HIN.out]
      have hrl := Lib.hid (fun u (hu : Holds u.heap.size u (.slice A l.length c) l) => reflevel_c A c l h64 64 id (Nat.le_refl _) (R.out.deep HIN.out) HIN.out u hu)
      unfold RetB at hrl
      rw [ho] at hcl
      rw [hfx] at hfi
      rw [hlb] at hlf
      rw [hls] at hlv
      simp only [Option.getD_some, Option.isSome_some] at hcl
      unfold clsV at hcl
      have hilt := (List.getElem?_eq_some_iff.1 hlx).1
      obtain ⟨b, off, rfl, hbw, hcc⟩ := HCS.out (by omega)
      have hcx := Lib.hid (hcc ix x hlx)
      have hsh := HS.out x hxm
      have hsame := Lib.hid (fun u => refsame_c x x hsh hsh u)
      rw [same_self] at hsame
      unfold Cls.agg at hsame
      have hixz : (ix : Int) < (l.length : Int) := by omega
      clear ho hf hfx hlb hls hxm hxi hcc hlx
      generalize hx3 : kids l id = xs3 at *
      clear hx3
      go_upto_region 11 with (first
        | (go_at_call 77; ((with_reducible refine (hcl.out w11 K11.out).mono ?_); rintro e w12 ⟨rfl, hb12⟩; have K12 := Lib.hid (K11.out.trans (hb12.mono K11.out.size)); clear hb12))
        | (go_at_call 51; ((with_reducible refine (hfi.out _ (K12.out.alloc K12.out.size _)).mono ?_); rintro e w13 ⟨rfl, rfl⟩)))
      have hd0 := new_cls w12 x
      have hkW : Below w4.heap.size w4 (w12.alloc (.cells #[.int .i64 x.id, .int .i64 x.parent, .float .f64 x.share, .int .i64 x.prio, .int .i64 x.quantum, .int .i64 x.limit, .int .i64 x.weight, .int .i64 x.minIdle, .int .i64 x.maxIdle, .bool x.bounded, .bool x.isolated] 64)) := K12.out.alloc K12.out.size _
      have hsW : (w12.alloc (.cells #[.int .i64 x.id, .int .i64 x.parent, .float .f64 x.share, .int .i64 x.prio, .int .i64 x.quantum, .int .i64 x.limit, .int .i64 x.weight, .int .i64 x.minIdle, .int .i64 x.maxIdle, .bool x.bounded, .bool x.isolated] 64)).heap.size = w12.heap.size + 1 := by simp
      generalize World.alloc w12 _ = W at *
      have hd := Lib.hid hd0
      have hbW : b < w12.heap.size := by have := K12.out.size; omega
      have he : Hid (∀ (i : Nat) (v : Value), x.cells[i]? = some v → W.cell? ⟨b, off + ix * 11 + i, none⟩ = some v) := Lib.hid (fun i v hv => ((HB4.out.trans (hkW.mono hw4)).cell (p := ⟨b, off + ix * 11 + i, none⟩) hbw).trans (hcx.out i v hv))
      have KW := Lib.hid hkW
      clear hd0 hkW
      have hd := hd.out; have he := he.out
      have d0 : W.cell? ⟨w12.heap.size, 0, none⟩ = some _ := hd 0 _ rfl; have d1 : W.cell? ⟨w12.heap.size, 1, none⟩ = some _ := hd 1 _ rfl; have d2 : W.cell? ⟨w12.heap.size, 2, none⟩ = some _ := hd 2 _ rfl; have d3 : W.cell? ⟨w12.heap.size, 3, none⟩ = some _ := hd 3 _ rfl; have d4 : W.cell? ⟨w12.heap.size, 4, none⟩ = some _ := hd 4 _ rfl; have d5 : W.cell? ⟨w12.heap.size, 5, none⟩ = some _ := hd 5 _ rfl; have d6 : W.cell? ⟨w12.heap.size, 6, none⟩ = some _ := hd 6 _ rfl; have d7 : W.cell? ⟨w12.heap.size, 7, none⟩ = some _ := hd 7 _ rfl; have d8 : W.cell? ⟨w12.heap.size, 8, none⟩ = some _ := hd 8 _ rfl; have d9 : W.cell? ⟨w12.heap.size, 9, none⟩ = some _ := hd 9 _ rfl; have d10 : W.cell? ⟨w12.heap.size, 10, none⟩ = some _ := hd 10 _ rfl
      have e0 : W.cell? ⟨b, off + ix * 11, none⟩ = some _ := he 0 _ rfl; have e1 : W.cell? ⟨b, off + ix * 11 + 1, none⟩ = some _ := he 1 _ rfl; have e2 : W.cell? ⟨b, off + ix * 11 + 2, none⟩ = some _ := he 2 _ rfl; have e3 : W.cell? ⟨b, off + ix * 11 + 3, none⟩ = some _ := he 3 _ rfl; have e4 : W.cell? ⟨b, off + ix * 11 + 4, none⟩ = some _ := he 4 _ rfl; have e5 : W.cell? ⟨b, off + ix * 11 + 5, none⟩ = some _ := he 5 _ rfl; have e6 : W.cell? ⟨b, off + ix * 11 + 6, none⟩ = some _ := he 6 _ rfl; have e7 : W.cell? ⟨b, off + ix * 11 + 7, none⟩ = some _ := he 7 _ rfl; have e8 : W.cell? ⟨b, off + ix * 11 + 8, none⟩ = some _ := he 8 _ rfl; have e9 : W.cell? ⟨b, off + ix * 11 + 9, none⟩ = some _ := he 9 _ rfl; have e10 : W.cell? ⟨b, off + ix * 11 + 10, none⟩ = some _ := he 10 _ rfl
      clear hd he
      refine Lx.wp_region_X 15 (fun w' => ∃ z, w' = Lx.kept (fun q => q = w12.heap.size ∨ q = b) W.drew z) (fun i => i == 12) (by kernel_rfl) (by kernel_rfl) (Lx.kept_of (Lx.Keeps.refl _ _)) ?_
      simp only [List.take_succ_cons, List.take_zero, List.drop_succ_cons, List.drop_zero]
      repeat (refine Lx.wpX_step (fun K hK => ?_); first | (refine Lx.opX_free (by rfl) (by rfl) (by rfl) ?_; go_big_quiet_op; refine hK _ _ ?_; clear hK K) | (refine Lx.opX_skip (by rfl) ?_; refine hK _ _ ?_; clear hK K; simp only [Act.put, List.setIfInBounds_toArray, List.set_cons_succ, List.set_cons_zero]))
      refine Lx.wpX_step (fun K hK => ?_)
      refine Lx.opX_law (by rfl) (by rfl) ?_
      go_wp2_with (go_at_call 44; ((with_reducible refine (hsame.out _).mono ?_); rintro e w13 ⟨rfl, hb13⟩; have HB13 := Lib.hid hb13; clear hb13))
      refine Lx.nq_mk (Lx.kept_of (fun q hq => HB13.out.block q (by rcases hq with e | e <;> simp <;> omega))) (hK _ _ ?_)
      clear hK K
      repeat (refine Lx.wpX_step (fun K hK => ?_); first | (refine Lx.opX_free (by rfl) (by rfl) (by rfl) ?_; go_big_quiet_op; refine hK _ _ ?_; clear hK K) | (refine Lx.opX_skip (by rfl) ?_; refine hK _ _ ?_; clear hK K; simp only [Act.put, List.setIfInBounds_toArray, List.set_cons_succ, List.set_cons_zero]))
      refine Lx.wpX_nil ?_
      have K13 : Hid (Below w4.heap.size w4 w13) := Lib.hid (KW.out.drew.trans (HB13.out.mono (by have := KW.out.size; simpa using this)))
      clear d0 d1 d2 d3 d4 d5 d6 d7 d8 d9 d10 e0 e1 e2 e3 e4 e5 e6 e7 e8 e9 e10
      by_cases h0 : xs3.length = 0
      · have ez : decide (xs3.length = 0) = true := decide_eq_true h0
        have ezz : ((xs3.length : Int) == 0) = true := by rw [beq_iff_eq]; omega
        rw [ez] at hlf
        clear h0 ez
        go_wp2_with (first
          | (go_at_call 78; ((with_reducible refine (hl4.out _ (HTu.out _ K13.out)).mono ?_); rintro e w14 ⟨A14, c14, rfl, hs14, hb14⟩; have S14 := Lib.hid hs14; have K14 := Lib.hid (K13.out.trans (hb14.mono K13.out.size)); clear hs14 hb14))
          | (go_at_call 79; ((with_reducible refine (hl5.out w14 (HIu.out w14 K14.out)).mono ?_); rintro e w15 ⟨A15, c15, rfl, hs15, hb15⟩; have S15 := Lib.hid hs15; have S1415 := Lib.hid ((S14.out.below hb15).more hb15.size); have K15 := Lib.hid (K14.out.trans (hb15.mono K14.out.size)); clear hs15 hb15))
          | (go_at_call 32; ((with_reducible refine (same_two w15 _ _ _ _ xs3 _ rfl (by omega) S1415.out S15.out).mono ?_); rintro e w16 ⟨rfl, hb16⟩; have K16 := Lib.hid (K15.out.trans (hb16.mono K15.out.size)); clear hb16))
          | (go_at_call 80; ((with_reducible refine (hlf.out w16 (HTu.out w16 K16.out)).mono ?_); rintro e w17 ⟨rfl, hb17⟩; have K17 := Lib.hid (K16.out.trans (hb17.mono K16.out.size)); clear hb17))
          | (go_at_call 79; ((with_reducible refine (hl5.out w17 (HIu.out w17 K17.out)).mono ?_); rintro e w18 ⟨A18, c18, rfl, hs18, hb18⟩; have K18 := Lib.hid (K17.out.trans (hb18.mono K17.out.size)); clear hs18 hb18))
          | (go_at_call 81; ((with_reducible refine (hlv.out w18 (HTu.out w18 K18.out)).mono ?_); rintro e w19 ⟨rfl, rfl⟩))
          | (go_at_call 82; ((with_reducible refine (hrl.out w18 (HIu.out w18 K18.out)).mono ?_); rintro e w20 ⟨rfl, hb20⟩; have K20 := Lib.hid (K18.out.trans (hb20.mono K18.out.size)); clear hb20))
          | (go_at_call 67; ((with_reducible refine (lives18 _).mono ?_); rintro e w21 ⟨rfl, hb21⟩; have K21 := Lib.hid (K20.out.trans (hb21.mono K20.out.size)); clear hb21)))
        go_ret
        exact ⟨rfl, HB4.out.trans (K21.out.mono hw4)⟩
      · have ez : decide (xs3.length = 0) = false := decide_eq_false h0
        have ezz : ((xs3.length : Int) == 0) = false := by rw [beq_eq_false_iff_ne]; omega
        rw [ez] at hlf
        clear h0 ez
        go_wp2_with (first
          | (go_at_call 78; ((with_reducible refine (hl4.out _ (HTu.out _ K13.out)).mono ?_); rintro e w14 ⟨A14, c14, rfl, hs14, hb14⟩; have S14 := Lib.hid hs14; have K14 := Lib.hid (K13.out.trans (hb14.mono K13.out.size)); clear hs14 hb14))
          | (go_at_call 79; ((with_reducible refine (hl5.out w14 (HIu.out w14 K14.out)).mono ?_); rintro e w15 ⟨A15, c15, rfl, hs15, hb15⟩; have S15 := Lib.hid hs15; have S1415 := Lib.hid ((S14.out.below hb15).more hb15.size); have K15 := Lib.hid (K14.out.trans (hb15.mono K14.out.size)); clear hs15 hb15))
          | (go_at_call 32; ((with_reducible refine (same_two w15 _ _ _ _ xs3 _ rfl (by omega) S1415.out S15.out).mono ?_); rintro e w16 ⟨rfl, hb16⟩; have K16 := Lib.hid (K15.out.trans (hb16.mono K15.out.size)); clear hb16))
          | (go_at_call 80; ((with_reducible refine (hlf.out w16 (HTu.out w16 K16.out)).mono ?_); rintro e w17 ⟨rfl, hb17⟩; have K17 := Lib.hid (K16.out.trans (hb17.mono K16.out.size)); clear hb17))
          | (go_at_call 79; ((with_reducible refine (hl5.out w17 (HIu.out w17 K17.out)).mono ?_); rintro e w18 ⟨A18, c18, rfl, hs18, hb18⟩; have K18 := Lib.hid (K17.out.trans (hb18.mono K17.out.size)); clear hs18 hb18))
          | (go_at_call 81; ((with_reducible refine (hlv.out w18 (HTu.out w18 K18.out)).mono ?_); rintro e w19 ⟨rfl, rfl⟩))
          | (go_at_call 82; ((with_reducible refine (hrl.out w18 (HIu.out w18 K18.out)).mono ?_); rintro e w20 ⟨rfl, hb20⟩; have K20 := Lib.hid (K18.out.trans (hb20.mono K18.out.size)); clear hb20))
          | (go_at_call 67; ((with_reducible refine (lives18 _).mono ?_); rintro e w21 ⟨rfl, hb21⟩; have K21 := Lib.hid (K20.out.trans (hb21.mono K20.out.size)); clear hb21)))
        go_ret
        exact ⟨rfl, HB4.out.trans (K21.out.mono hw4)⟩
  · have hb0 : (ck != 0) = true := by rw [bne_iff_ne]; exact hz
    have hb1 : (ck == 0) = false := by rw [beq_eq_false_iff_ne]; exact hz
    have HCK := Lib.hid hck; have HZ := Lib.hid hz
    have hcomp2 := hcomp.out
    clear hck hz
    go_enter Try.func10, Try.ntmps10
    unfold CompOk at hcomp2
    rw [← HCK.out] at hcomp2
    have HC2 := Lib.hid hcomp2
    clear hcomp2
    go_wp2_with (first
      | (go_at_call 68; ((with_reducible refine (HC2.out).mono ?_); rintro e w3 (⟨_, rfl, hb3⟩ | ⟨hn, _⟩); rotate_left; exact absurd hn HZ.out; have HB3 := Lib.hid hb3; clear hb3))
      | (go_at_call 69; ((with_reducible refine (hchk.out _ HB3.out).mono ?_); rintro e w4 ⟨rfl, hb4⟩; have HB4 := Lib.hid (HB3.out.trans (hb4.mono HB3.out.size)); clear hb4))
      | (go_at_call 67; ((with_reducible refine (lives18 _).mono ?_); rintro e w5 ⟨rfl, hb5⟩; have HB5 := Lib.hid (HB4.out.trans (hb5.mono HB4.out.size)); clear hb5)))
    go_ret
    exact ⟨rfl, HB5.out⟩
end Go.Proofs.Ytdoemgccmjddcaa.Tr
