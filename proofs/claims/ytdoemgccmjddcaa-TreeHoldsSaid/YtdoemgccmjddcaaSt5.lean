/- Stats: the document's Off; the examples; the law StatsTells. -/
import Derived.Test.YtdoemgccmjddcaaSt4
namespace Go.Proofs.Ytdoemgccmjddcaa.St
open Go.RowKit Fl Wd

theorem negFloat_eq {x : Nat} (h1 : 9223372036854775808 ≤ x) (h2 : x < 18446744073709551616) : Op.negFloat .f64 x = absB x := by
  unfold Op.negFloat absB
  have e : 2 ^ (FloatKind.f64.format.exponentBits + FloatKind.f64.format.fractionBits) = 2 ^ 63 := by decide +kernel
  rw [e]
  have : x = 2 ^ 63 + x % 9223372036854775808 := by omega
  generalize x % 9223372036854775808 = y at *
  have hy : y < 2 ^ 63 := by omega
  subst this
  have ho : 2 ^ 63 + y = 2 ^ 63 ||| y := by
    have := Nat.two_pow_add_eq_or_of_lt hy 1
    simpa using this
  rw [ho]
  apply Nat.eq_of_testBit_eq
  intro i
  rw [Nat.testBit_xor, Nat.testBit_or, Nat.testBit_two_pow]
  by_cases hi : 63 = i
  · subst hi
    have : y.testBit 63 = false := Nat.testBit_lt_two_pow hy
    simp [this]
  · simp [hi]
theorem flt_neg {x : Nat} (hx : x < 18446744073709551616) (h : flt x 0 = true) : 9223372036854775808 ≤ x := by
  unfold flt key at h
  simp at h
  obtain ⟨_, h⟩ := h
  split at h <;> omega
theorem flt_abs {r x : Nat} (hr : r ≤ 9218868437227405312) (hx : nan x = false) (h0 : flt x 0 = false) (hl : x < 18446744073709551616) : flt r x = decide (r < absB x) ∧ (r < absB x → x = absB x) := by
  have hnr : nan r = false := (nan_false_iff r).2 (by omega)
  have hn0 : nan 0 = false := by decide +kernel
  unfold flt at *
  rw [hx, hn0] at h0
  rw [hx, hnr]
  simp only [Bool.not_false, Bool.true_and, decide_eq_false_iff_not] at *
  unfold key absB at *
  by_cases hs : x / 9223372036854775808 % 2 = 1
  · rw [if_pos hs] at h0 ⊢
    rw [if_neg (by omega)]
    simp at h0
    refine ⟨by rw [decide_eq_decide]; omega, by omega⟩
  · rw [if_neg hs] at h0 ⊢
    rw [if_neg (by omega)]
    refine ⟨by rw [decide_eq_decide]; omega, by omega⟩
theorem flt_pos {r x : Nat} (hr : r ≤ 9218868437227405312) (hx : x ≤ 9218868437227405312) : flt r x = decide (r < x) := by
  have h1 : nan r = false := (nan_false_iff r).2 (by omega)
  have h2 : nan x = false := (nan_false_iff x).2 (by omega)
  unfold flt; rw [h1, h2]
  unfold key; rw [if_neg (by omega), if_neg (by omega)]
  simp only [Bool.not_false, Bool.true_and]
  rw [decide_eq_decide]; omega
theorem feq_num {x : Nat} (h : nan x = false) : feq x x = true := by rw [feq_self, h]; rfl
theorem flt_nanl {x y : Nat} (h : nan x = true) : flt x y = false := by unfold flt; rw [h]; rfl
theorem flt_nanr {x y : Nat} (h : nan y = true) : flt x y = false := by unfold flt; rw [h]; simp

theorem mo_cases (m d : Nat) : mo m d = if nan d then m else if m < absB d then absB d else m := by
  unfold mo; split
  · rfl
  · split
    · exact Nat.max_eq_right (by omega)
    · exact Nat.max_eq_left (by omega)

/-- 'most / 0 * 0' is no number. -/
theorem most_nan {r : Nat} (hr : r ≤ 9218868437227405312) (w w2 : World) : cf (fbits .mul (fbits .quo r 0 w) 0 w2) = nanC := by
  rw [cf_fbits, cf_fbits, cf_zero]
  have e0 : Ieee.double.read 0 = .number false 0 (-1074) := by decide +kernel
  by_cases h0 : r = 0
  · subst h0; decide +kernel
  · have hq : fop .quo (cf r) 0 = 9218868437227405312 ∨ fop .quo (cf r) 0 = nanC := by
      rw [cf_num ((nan_false_iff r).2 (by omega))]
      by_cases hi : r = 9218868437227405312
      · subst hi; left; decide +kernel
      · obtain ⟨m, k, e, hm⟩ := read_num (b := r) (by omega)
        have hm0 : m ≠ 0 := by
          rintro rfl
          have : mag (r % 9223372036854775808) = 0 := by rw [← hm]; omega
          have h2 := mag_lt (a := 0) (b := r % 9223372036854775808) (by omega)
          rw [mag_zero] at h2; omega
        left
        have hs : (r / 9223372036854775808 % 2 == 1) = false := by
          have : r / 9223372036854775808 % 2 = 0 := by omega
          rw [this]; rfl
        unfold fop floatBits
        simp only [FloatKind.format, Ieee.Format.div, e, e0, hs, Ieee.Datum.quotient, if_true, if_neg hm0]
        decide +kernel
    rcases hq with hq | hq <;> rw [hq] <;> decide +kernel

set_option maxRecDepth 20000 in
set_option maxHeartbeats 1000000 in
theorem refoff_any (A B : Option Addr) (c d : Nat) (xs ys : List Nat) (hn : xs.length ≤ 1000) (hm : ys.length ≤ 1000) (w : World) (K : Nat) (ha : Sl w K 1 A xs.length (F xs)) (hb : Sl w K 1 B ys.length (F ys)) :
    Calls Try.prog 23 #[.slice A xs.length c, .slice B ys.length d] w fun e w' => RetF w (offS xs ys) e w' := by
  have hz : ((xs.zip ys).map dif).length = min xs.length ys.length := by rw [List.length_map, List.length_zip]
  have Hz := Lib.hid hz; clear hz
  go_enter Try.func23, Try.ntmps23
  go_wp2
  go_loopw [5, 6, 7, 8] (fun m f i _ wr => ∃ (k r n : Nat) (z : Bool), k ≤ xs.length ∧ k ≤ ys.length ∧ i = .int .i64 k ∧ m = .float .f64 r ∧ r = (((xs.zip ys).map dif).take k).foldl mo 0 ∧ f = .bool z ∧ z = (((xs.zip ys).map dif).take k).any nan ∧ r ≤ 9218868437227405312 ∧ wr = w.drewN n)
    (fun _ _ i _ _ => xs.length - (intOf i).toNat)
  case atStart => exact ⟨0, 0, 0, false, Nat.zero_le _, Nat.zero_le _, rfl, rfl, rfl, rfl, rfl, by omega, rfl⟩
  case round =>
    obtain ⟨k, r, n, z, hk, hk2, rfl, rfl, hr, rfl, hany, hr2, rfl⟩ := hrel
    by_cases hlt : k < xs.length ∧ k < ys.length
    · obtain ⟨hltx, hlty⟩ := hlt
      obtain ⟨a, u, rfl, hab, hu, hc⟩ := ha.cell1 (k := k) (by omega)
      obtain ⟨b, v, rfl, hbb, hv, hc2⟩ := hb.cell1 (k := k) (by omega)
      unfold F at hu hv
      simp only [List.getElem?_map] at hu hv
      obtain ⟨x, hxk, rfl⟩ := Option.map_eq_some_iff.1 hu
      obtain ⟨y, hyk, rfl⟩ := Option.map_eq_some_iff.1 hv
      have Hd := Lib.hid (zip_at hxk hyk)
      have Hr := Lib.hid hr; have Hany := Lib.hid hany
      have i0 : (0 : Int) ≤ (k : Int) := by omega
      have i1 : (k : Int) < (xs.length : Int) := by omega
      have i2 : (k : Int) < (ys.length : Int) := by omega
      clear hu hv ha hb hxk hyk hr hany
      cases hnd : nan (fop .sub (cf x) (cf y)) with
      | true =>
        have f1 : ∀ W, flt (fbits .sub x y W) 0 = false := fun W => flt_nanl (by rw [nan_fbits, hnd])
        have f2 : ∀ W, flt r (fbits .sub x y W) = false := fun W => flt_nanr (by rw [nan_fbits, hnd])
        have f3 : ∀ W, feq (fbits .sub x y W) (fbits .sub x y W) = false := fun W => by rw [feq_self, nan_fbits, hnd]; rfl
        have Hnd := Lib.hid hnd; clear hnd
        cases z <;>
          (go_wp2
           go_region
           all_goals
             go_wp2
             go_roundw
             case rel => exact ⟨k + 1, _, _, _, by omega, by omega, by go_num, rfl, by rw [fold_succ Hd.out, ← Hr.out, mo_cases, if_pos Hnd.out], rfl, by rw [any_succ Hd.out, ← Hany.out, Hnd.out]; rfl, hr2, rfl⟩
             case measure => simp [intOf]; omega)
      | false =>
        have hfb := fbits_num (op := .sub) (x := x) (y := y) hnd
        have hmo : Hid (mo r (fop .sub (cf x) (cf y)) = if r < absB (fop .sub (cf x) (cf y)) then absB (fop .sub (cf x) (cf y)) else r) := Lib.hid (by rw [mo_cases, if_neg (by rw [hnd]; decide)])
        have hda := absB_le hnd
        have hDl : fop .sub (cf x) (cf y) < 18446744073709551616 := by rw [← hfb w]; exact fbits_lt _ _ _ _
        have hna := nan_absB (fop .sub (cf x) (cf y))
        rw [hnd] at hna
        have hf1 := feq_num hnd
        have hf2 := feq_num hna
        have hf3 := flt_pos hr2 hda
        cases h0 : flt (fop .sub (cf x) (cf y)) 0 with
        | true =>
          have Hng := Lib.hid (negFloat_eq (flt_neg hDl h0) hDl)
          rw [← Hng.out] at hf2
          have Hnd := Lib.hid hnd; clear hnd hna
          generalize fop .sub (cf x) (cf y) = D at *
          generalize absB D = E at *
          generalize hG : Op.negFloat .f64 D = G at *
          by_cases hrE : r < E
          · have hg3 : flt r G = true := by rw [Hng.out, hf3, decide_eq_true hrE]
            have HrE := Lib.hid hrE; clear hrE hf3
            cases z <;>
              (go_wp2
               go_region
               all_goals
                 go_wp2
                 go_roundw
                 case rel => exact ⟨k + 1, _, _, _, by omega, by omega, by go_num, rfl, by rw [fold_succ Hd.out, ← Hr.out, hmo.out, if_pos HrE.out]; exact Hng.out, rfl, by rw [any_succ Hd.out, ← Hany.out, Hnd.out]; rfl, by rw [Hng.out]; exact hda, rfl⟩
                 case measure => simp [intOf]; omega)
          · have hg3 : flt r G = false := by rw [Hng.out, hf3, decide_eq_false hrE]
            have HrE := Lib.hid hrE; clear hrE hf3
            cases z <;>
              (go_wp2
               go_region
               all_goals
                 go_wp2
                 go_roundw
                 case rel => exact ⟨k + 1, _, _, _, by omega, by omega, by go_num, rfl, by rw [fold_succ Hd.out, ← Hr.out, hmo.out, if_neg HrE.out], rfl, by rw [any_succ Hd.out, ← Hany.out, Hnd.out]; rfl, hr2, rfl⟩
                 case measure => simp [intOf]; omega)
        | false =>
          obtain ⟨hf4, hDE⟩ := flt_abs hr2 hnd h0 hDl
          have Hnd := Lib.hid hnd; clear hnd hna
          generalize fop .sub (cf x) (cf y) = D at *
          by_cases hrE : r < absB D
          · have hDE' := hDE hrE
            have HDE := Lib.hid hDE'
            rw [decide_eq_true hrE] at hf4
            have HrE := Lib.hid hrE; clear hrE hDE hDE' hf3 hf2
            cases z <;>
              (go_wp2
               go_region
               all_goals
                 go_wp2
                 go_roundw
                 case rel => exact ⟨k + 1, _, _, _, by omega, by omega, by go_num, rfl, by rw [fold_succ Hd.out, ← Hr.out, hmo.out, if_pos HrE.out]; exact HDE.out, rfl, by rw [any_succ Hd.out, ← Hany.out, Hnd.out]; rfl, by rw [HDE.out]; exact hda, rfl⟩
                 case measure => simp [intOf]; omega)
          · rw [decide_eq_false hrE] at hf4
            have HrE := Lib.hid hrE; clear hrE hDE hf3 hf2
            cases z <;>
              (go_wp2
               go_region
               all_goals
                 go_wp2
                 go_roundw
                 case rel => exact ⟨k + 1, _, _, _, by omega, by omega, by go_num, rfl, by rw [fold_succ Hd.out, ← Hr.out, hmo.out, if_neg HrE.out], rfl, by rw [any_succ Hd.out, ← Hany.out, Hnd.out]; rfl, hr2, rfl⟩
                 case measure => simp [intOf]; omega)
    · have hkl : k = min xs.length ys.length := by omega
      rw [hkl, ← Hz.out, List.take_length] at hr hany
      have Hr := Lib.hid hr; have Hany := Lib.hid hany
      clear hr hany hkl
      by_cases hltx : k < xs.length
      all_goals
        cases z
        all_goals
          go_wp2
          go_ret
        · refine ⟨_, _, rfl, ?_, by omega, rfl⟩
          unfold offS offD
          rw [if_neg (by rw [← Hany.out]; decide), ← Hr.out, cf_num ((nan_false_iff r).2 (by omega))]
        · refine ⟨_, _, rfl, ?_, fbits_lt _ _ _ _, rfl⟩
          unfold offS offD
          rw [if_pos (by rw [← Hany.out])]
          exact most_nan hr2 _ _

end Go.Proofs.Ytdoemgccmjddcaa.St
