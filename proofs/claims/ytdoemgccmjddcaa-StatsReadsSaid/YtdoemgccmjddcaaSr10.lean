/- The law StatsReads. -/
import Derived.Test.YtdoemgccmjddcaaSr9
import Derived.Test.YtdoemgccmjddcaaSt6
namespace Go.Proofs.Ytdoemgccmjddcaa.Sr
open Go.RowKit Go.Maps Go.Shelf Fl Wd Li St

theorem sameints_m (A A2 : Option Addr) (c c2 m : Nat) (xs : List Int) (hm : xs.length = m) (hx : m ≤ 1048576) (w : World) (h1 : Sl w w.heap.size 1 A m (I xs)) (h2 : Sl w w.heap.size 1 A2 m (I xs)) :
    Calls Try.prog 32 #[.slice A m c, .slice A2 m c2] w fun e w' => e = .returned (.bool true) ∧ Below w.heap.size w w' := by
  subst hm
  exact sameints_c A A2 c c2 xs hx w h1 h2

set_option maxRecDepth 20000 in
set_option maxHeartbeats 4000000 in
theorem reads_t (A A2 : Option Addr) (n c m c2 : Nat) (l : List En) (hwf : ∀ (j : Nat) (x : En), l[j]? = some x → (Lit.int .i64 x.seq).wf = true) (w : World) (hI : Ls w.heap.size w (.slice A n c) l)
    (hL : m ≤ 20 → ∃ leaves : List Int, m = leaves.length ∧ Sl w w.heap.size 1 A2 leaves.length (I leaves)) :
    Calls Try.prog 5 #[.slice A n c, .slice A2 m c2] w fun e w' => e = .returned (.bool true) ∧ Below w.heap.size w w' := by
  have hfew := few_c A n c l w hI
  have HLV := Lib.hid lives_any
  cases hf : fewB l with
  | false =>
    have hfew : Calls Try.prog 29 #[.slice A n c, .int .i64 60] w fun e w' => e = .returned (.bool false) ∧ Below w.heap.size w w' := hfew.mono (fun e w' h => by rw [← hf]; exact h)
    have HFEW := Lib.hid hfew
    clear hfew hI hL hwf hf
    go_enter Try.func5, Try.ntmps5
    go_wp2_with (first
      | (go_at_call 29; refine (HFEW.out).mono ?_; rintro e w1 ⟨rfl, hb1⟩; have HB1 := Lib.hid hb1; clear hb1)
      | (go_at_call 19; refine (HLV.out _).mono ?_; rintro e w2 ⟨rfl, hb2⟩; have HB2 := Lib.hid hb2; clear hb2))
    go_ret
    exact ⟨rfl, HB1.out.trans (HB2.out.mono HB1.out.size)⟩
  | true =>
    have hfew : Calls Try.prog 29 #[.slice A n c, .int .i64 60] w fun e w' => e = .returned (.bool true) ∧ Below w.heap.size w w' := hfew.mono (fun e w' h => by rw [← hf]; exact h)
    have HFEW := Lib.hid hfew
    obtain ⟨h60, hl⟩ := few_is hf
    clear hfew hf
    by_cases hm : 20 < m
    · have hmz : decide ((20 : Int) < (m : Int)) = true := decide_eq_true (by omega)
      clear hI hL hwf hl
      go_enter Try.func5, Try.ntmps5
      go_wp2_with (first
        | (go_at_call 29; refine (HFEW.out).mono ?_; rintro e w1 ⟨rfl, hb1⟩; have HB1 := Lib.hid hb1; clear hb1)
        | (go_at_call 19; refine (HLV.out _).mono ?_; rintro e w2 ⟨rfl, hb2⟩; have HB2 := Lib.hid hb2; clear hb2))
      go_ret
      exact ⟨rfl, HB1.out.trans (HB2.out.mono HB1.out.size)⟩
    · obtain ⟨leaves, rfl, hLv⟩ := hL (by omega)
      have hmz : decide ((20 : Int) < (leaves.length : Int)) = false := decide_eq_false (by omega)
      have HI := Lib.hid hI
      have HLS := Lib.hid hLv
      have HWF := Lib.hid hwf
      have HL := Lib.hid hl
      have hlen : l.length ≤ 1048576 := by omega
      have hll : leaves.length ≤ 1048576 := by omega
      have hwl : (went l l.length).length ≤ 1048576 := by have := went_len l l.length; omega
      obtain ⟨_, _, e⟩ := hI.form
      obtain ⟨rfl, rfl, rfl⟩ := Value.slice.inj e
      clear e hI hLv hwf hl hm hL
      go_enter Try.func5, Try.ntmps5
      go_upto_region 5 with (first
        | (go_at_call 29; refine (HFEW.out).mono ?_; rintro e w1 ⟨rfl, hb1⟩; have HB1 := Lib.hid hb1; clear hb1)
        | (go_at_call 30; refine (own_c _ _ _ l hlen _ (HI.out.next HB1.out)).mono ?_; rintro e w2 ⟨v2, rfl, hv2, hb2⟩; obtain ⟨A3, c3, rfl⟩ := hv2.form; have HV2 := Lib.hid hv2; have HB2 := Lib.hid (HB1.out.trans (hb2.mono HB1.out.size)); clear hv2 hb2)
        | (go_at_call 31; refine (parts_c _ _ _ _ _ l leaves hlen hll HWF.out HL.out _ HV2.out ((HLS.out.below HB2.out).more HB2.out.size)).mono ?_; rintro e w3 ⟨B3, d3, rs, rfl, hA, hsl, hb3⟩; have HA := Lib.hid hA; have HSL := Lib.hid hsl; have HB3 := Lib.hid hb3; have HB03 := Lib.hid (HB2.out.trans (hb3.mono HB2.out.size)); clear hA hsl hb3))
      go_upto_region 7 with (first
        | (go_at_call 33; refine (delays_c _ _ _ l hlen HWF.out _ (HV2.out.next HB3.out)).mono ?_; rintro e w4 ⟨B4, d4, rfl, hs4, hb4⟩; have HS4 := Lib.hid hs4; have HB4 := Lib.hid hb4; clear hs4 hb4)
        | (go_at_call 34; refine (refdelays_c _ _ _ l hlen _ (HI.out.next (HB03.out.trans (HB4.out.mono HB03.out.size)))).mono ?_; rintro e w5 ⟨B5, d5, rfl, hs5, hb5⟩; have HS5 := Lib.hid hs5; have HS45 := Lib.hid ((HS4.out.below hb5).more hb5.size); have HB5 := Lib.hid hb5; clear hs5 hb5)
        | (go_at_call 32; refine (sameints_m _ _ _ _ _ (dels (went l l.length)) (by simp [dels]) hwl _ HS45.out HS5.out).mono ?_; rintro e w6 ⟨rfl, hb6⟩; have HB6 := Lib.hid hb6; clear hb6))
      have HB36 : Hid (Below w3.heap.size w3 w6) := Lib.hid (by
        have e4 := HB4.out
        have e5 := e4.trans (HB5.out.mono e4.size)
        exact e5.trans (HB6.out.mono e5.size))
      have hpt : ∀ leaf u, Below w.heap.size w u → Calls Try.prog 35 #[.slice A l.length c, .int .i64 leaf] u (PartOk (sumRaw (pick false leaf) (went l l.length)) (sumRaw (pick true 0) (went l l.length)) u) := fun leaf u hu =>
        refpart_c A _ c leaf l hlen HL.out w.heap.size u (HI.out.below hu)
      have hrb : ∀ leaf u, Below w.heap.size w u → Calls Try.prog 37 #[.slice A l.length c, .int .i64 leaf, .bool false] u (CameOk (sumRaw (pick false leaf) (went l l.length)) u) := fun leaf u hu =>
        refbytes_c A _ c leaf false l hlen HL.out w.heap.size u (HI.out.below hu)
      have hby : ∀ leaf u, Below w2.heap.size w2 u → Calls Try.prog 36 #[.slice A3 l.length c3, .int .i64 leaf] u fun e w' => e = .returned (.int .i64 (sumRaw (pick false leaf) (went l l.length))) ∧ Below u.heap.size u w' := fun leaf u hu =>
        bytes_c A3 _ c3 leaf l hlen HWF.out HL.out u (HV2.out.next hu)
      have HPT := Lib.hid hpt
      have HRB := Lib.hid hrb
      have HBY := Lib.hid hby
      have HB23 : Hid (Below w2.heap.size w2 w3) := HB3
      clear hpt hrb hby HS4 HS5 HS45 HB4 HB5 HB6 HB3
      generalize hTT : sumRaw (pick true 0) (went l l.length) = TT at *
      have HTT := Lib.hid hTT
      clear hTT
      go_wp2_with fail
      go_loopg [38] leaves.length (fun kx s38 wr => ∃ k : Nat, s38 = .int .i64 k ∧ k ≤ leaves.length ∧ leaves.length - k ≤ kx ∧ Hid (Below w3.heap.size w3 wr))
      case atStart => exact ⟨0, rfl, by omega, by omega, HB36⟩
      case round =>
        obtain ⟨k, rfl, hk, hkx, HW⟩ := hrel
        by_cases hlt : k < leaves.length
        · have hltz : (k : Int) < (leaves.length : Int) := by omega
          have hbw : Below w.heap.size w wr := HB03.out.trans (HW.out.mono HB03.out.size)
          obtain ⟨a, u, rfl, hab, hu, hc⟩ := ((HLS.out.below hbw).more hbw.size).cell1 (k := k) hlt
          unfold I at hu
          simp only [List.getElem?_map] at hu
          obtain ⟨leaf, hleaf, rfl⟩ := Option.map_eq_some_iff.1 hu
          obtain ⟨r, hrk, hr, hr2⟩ := HA.out.2 k leaf hleaf
          obtain ⟨a3, u3, rfl, hab3, hu3, hc3⟩ := ((HSL.out.below HW.out).more HW.out.size).cell1 (k := k) hlt
          unfold F at hu3
          simp only [List.getElem?_map, hrk] at hu3
          obtain rfl : Value.float .f64 r = u3 := by simpa using hu3
          rw [HTT.out] at hr
          have HR := Lib.hid hr
          have HR2 := Lib.hid hr2
          have HBd : Hid (Below w.heap.size w wr.drew) := Lib.hid hbw.drew
          have HBw : Hid (Below w.heap.size w wr) := Lib.hid hbw
          have HB2d : Hid (Below w2.heap.size w2 wr) := Lib.hid (HB23.out.trans (HW.out.mono HB23.out.size))
          have HW3d : Hid (Below w3.heap.size w3 wr) := HW
          clear hu hu3 hrk hr hr2 hleaf hbw HW
          go_upto_region 10 with fail
          generalize hS : sumRaw (pick false leaf) (went l l.length) = S at *
          have HPT1 := Lib.hid (HPT.out leaf)
          have HRB1 := Lib.hid (HRB.out leaf)
          have HBY1 := Lib.hid (HBY.out leaf)
          rw [hS] at HPT1 HRB1 HBY1
          clear hS
          go_region_with (first
            | (go_at_call 35; refine (HPT1.out _ HBd.out).mono ?_; rintro e w7 ⟨r7, q7, rfl, hr7, hr72, rfl⟩; have HR7 := Lib.hid hr7; have HR72 := Lib.hid hr72; clear hr7 hr72)
            | (go_at_call 21; refine (same_true _ _ (HR.out.trans HR7.out.symm) HR2.out HR72.out _).mono ?_; rintro e w8 ⟨rfl, rfl⟩)
            | (go_at_call 36; refine (HBY1.out _ (below_drewN HB2d.out _)).mono ?_; rintro e w9 ⟨rfl, hb9⟩; have HB9 := Lib.hid ((below_drewN HBw.out _).trans (hb9.mono (below_drewN HBw.out _).size)); have HB93 := Lib.hid ((below_drewN HW3d.out _).trans (hb9.mono (below_drewN HW3d.out _).size)); clear hb9)
            | (go_at_call 37; refine (HRB1.out _ HB9.out).mono ?_; rintro e w10 ⟨q10, rfl, rfl⟩))
          all_goals
            go_wp2
            go_roundg (leaves.length - (k + 1))
            case measure => omega
            case rel => exact ⟨k + 1, by go_num, by omega, by omega, Lib.hid (below_drewN HB93.out q10)⟩
        · have hltz : ¬ (k : Int) < (leaves.length : Int) := by omega
          go_wp2_with (go_at_call 19; refine (HLV.out _).mono ?_; rintro e w2 ⟨rfl, hb2⟩; have HB2' := Lib.hid hb2; clear hb2)
          go_ret
          have hbw := HB03.out.trans (HW.out.mono HB03.out.size)
          exact ⟨rfl, hbw.trans (HB2'.out.mono hbw.size)⟩
end Go.Proofs.Ytdoemgccmjddcaa.Sr
