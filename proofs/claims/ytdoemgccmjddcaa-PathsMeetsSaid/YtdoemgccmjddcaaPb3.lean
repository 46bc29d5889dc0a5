/- The reference's Below. -/
import Derived.Test.YtdoemgccmjddcaaPb2
namespace Go.Proofs.Ytdoemgccmjddcaa.Pa
open Go.RowKit Go.Maps Go.Proofs.Ytdoemgccmjddcaa.Wd Go.Proofs.Ytdoemgccmjddcaa.Li Go.Proofs.Ytdoemgccmjddcaa.Mp Go.Proofs.Ytdoemgccmjddcaa.Tp Go.Proofs.Ytdoemgccmjddcaa.Tr Go.Proofs.Ytdoemgccmjddcaa.Cl Go.Proofs.Ytdoemgccmjddcaa.So Go.Proofs.Ytdoemgccmjddcaa.Sw
attribute [local go_sem] run_store_float

set_option maxRecDepth 20000 in
set_option maxHeartbeats 2000000 in
theorem refbelow_c (A : Option Addr) (cap : Nat) (l : List Cls) (F0 : Fit l) (id : Int) (w : World) (hI : Holds w.heap.size w (.slice A l.length cap) l) :
    Calls Try.prog 95 #[.slice A l.length cap, .int .i64 id] w (ListOk (belowS l id) w) := by
  have hlv := Lib.hid (refleaves_c A cap l (by have := F0.le; omega) w hI)
  have hll := Lib.hid (Nat.le_trans (leaves_len l) F0.le)
  have HI := Lib.hid hI
  have HF := Lib.hid F0
  clear hI F0
  unfold ListOk at hlv
  obtain ⟨zs, hz⟩ : ∃ zs, zs = leavesS l := ⟨_, rfl⟩
  have HZ := Lib.hid hz
  rw [← hz] at hlv hll
  clear hz
  go_enter Try.func95, Try.ntmps95
  go_wp2_with (go_at_call 76; (with_reducible refine (hlv.out).mono ?_); rintro e w1 ⟨A1, c1, rfl, hs1, hb1⟩; have HS1 := Lib.hid hs1; have HB1 := Lib.hid hb1; clear hs1 hb1)
  have hws := HB1.out.size
  go_loopg [5, 7] zs.length (fun kx s5 s11 wr => ∃ (k : Nat) (B9 : Option Addr) (c9 : Nat), s11 = .int .i64 k ∧ s5 = .slice B9 (belowP l id k).length c9 ∧ k ≤ zs.length ∧ zs.length - k ≤ kx ∧ Hid (wr.ownsRow w1.heap.size 3 1 s5 (belowP l id k).length (St.I (belowP l id k))) ∧ Hid (Below w1.heap.size w1 wr))
  case atStart => exact ⟨0, none, 0, rfl, rfl, by omega, by omega, Lib.hid (World.ownsRow_nil ..), Lib.hid (Below.refl _ _)⟩
  case round =>
    obtain ⟨k, B9, c9, rfl, rfl, hk, hkx, HO, HW⟩ := hrel
    have hwz := HW.out.size
    have hl2 := hll.out
    by_cases hlt : k < zs.length
    · have hltz : (k : Int) < (zs.length : Int) := by omega
      obtain ⟨a, u, rfl, hab, hu, hc⟩ := (HS1.out.below HW.out).cell1 (k := k) hlt
      unfold St.I at hu
      simp only [List.getElem?_map] at hu
      obtain ⟨y, hy0, rfl⟩ := Option.map_eq_some_iff.1 hu
      rw [HZ.out] at hy0
      have hol := belowP_len l id k
      have hpa := refpath_c A cap l HF.out 65 y (wids_len l y) wr (holds_next HI.out (HB1.out.trans (HW.out.mono hws)))
      unfold PathOk ListOk at hpa
      have HPA := Lib.hid hpa
      have hps := wids_len l y
      obtain ⟨q, hq⟩ : ∃ q, q = underS l y id := ⟨_, rfl⟩
      have hqd : decide (id ∈ wids l y) = q := hq.symm
      obtain ⟨ps, hpse⟩ : ∃ ps, ps = wids l y := ⟨_, rfl⟩
      rw [← hpse] at HPA hps hqd
      have HY := Lib.hid hy0
      have HQ := Lib.hid hq
      have HQD := Lib.hid hqd
      clear hpa hu hy0 hq hqd hpse
      cases q with
      | true =>
        have HTK := Lib.hid (belowP_in HY.out HQ.out.symm)
        generalize belowP l id k = os at *
        go_upto_region 7 with (first
          | (go_at_call 92; (with_reducible refine (HPA.out).mono ?_); rintro e w2 ⟨⟨A2, c2, rfl, hs2, hb2⟩, hpx⟩; have hh := has_c A2 c2 w2.heap.size ps id (by omega) w2 hs2; rw [HQD.out] at hh; have HH := Lib.hid hh; have HB2 := Lib.hid hb2; clear hs2 hb2 hpx hh)
          | (go_at_call 93; (with_reducible refine (HH.out).mono ?_); rintro e w3 ⟨rfl, hw3⟩; subst w3))
        have hw2 := HB2.out.size
        have hc2 := (HB2.out.cell (p := a.add k) (show (a.add k).block < wr.heap.size by rw [add_block]; omega)).trans hc
        have HO2 := Lib.hid (own_same (w' := w2) HO.out (fun q hq => HB2.out.block q (HO.out.lt q hq).2))
        have HW2 := Lib.hid (HW.out.trans (HB2.out.mono hwz))
        clear hc
        go_wp2_with ((at_builtin; go_must (refine wpList_push_at (by rfl) _ _ 27 (by rfl) Try.underlying27 w1.heap.size y w2 _ os (by rfl) HO2.out (by rfl) (by omega) (by omega) ?_)); intro g cap7 w7 hown7 hg7 hl7; have HO7 := Lib.hid hown7; have HB7 := Lib.hid (push_below HW2.out (Nat.le_refl _) (by omega) HO2.out hg7); clear hown7 hg7 hl7)
        go_roundg (zs.length - (k + 1))
        case measure => omega
        case rel => exact ⟨k + 1, some ⟨g, 0, none⟩, cap7, by go_num, by rw [HTK.out]; simp, by omega, by omega, Lib.hid (by rw [HTK.out]; have := HO7.out; simpa [Sv.val] using this), HB7⟩
      | false =>
        have HTK := Lib.hid (belowP_out HY.out HQ.out.symm)
        go_wp2_with (first
          | (go_at_call 92; (with_reducible refine (HPA.out).mono ?_); rintro e w2 ⟨⟨A2, c2, rfl, hs2, hb2⟩, hpx⟩; have hh := has_c A2 c2 w2.heap.size ps id (by omega) w2 hs2; rw [HQD.out] at hh; have HH := Lib.hid hh; have HB2 := Lib.hid hb2; clear hs2 hb2 hpx hh)
          | (go_at_call 93; (with_reducible refine (HH.out).mono ?_); rintro e w3 ⟨rfl, hw3⟩; subst w3))
        go_roundg (zs.length - (k + 1))
        case measure => omega
        case rel => exact ⟨k + 1, B9, c9, by go_num, by rw [HTK.out], by omega, by omega, Lib.hid (by rw [HTK.out]; exact own_same HO.out (fun q hq => HB2.out.block q (HO.out.lt q hq).2)), Lib.hid (HW.out.trans (HB2.out.mono hwz))⟩
    · have hltz : ¬ (k : Int) < (zs.length : Int) := by omega
      obtain rfl : k = zs.length := by omega
      have HTK : Hid (belowP l id zs.length = belowS l id) := Lib.hid (by rw [HZ.out]; exact belowP_all l id)
      rw [HTK.out] at HO ⊢
      go_wp2
      go_ret
      exact ⟨B9, c9, rfl, Sl.of_own HO.out, HB1.out.trans (HW.out.mono hws)⟩
end Go.Proofs.Ytdoemgccmjddcaa.Pa
