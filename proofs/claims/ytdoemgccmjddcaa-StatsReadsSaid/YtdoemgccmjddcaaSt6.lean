/- Stats: the document's examples; the law StatsTells. -/
import Derived.Test.YtdoemgccmjddcaaSt5
import Derived.Test.YtdoemgccmjddcaaRel
namespace Go.Proofs.Ytdoemgccmjddcaa.St
open Go.RowKit Fl Wd Rel
attribute [local go_sem] opR oneOk relOk

theorem mean0 : meanS [] = nanC := by decide +kernel
theorem mean12 : meanS [1, 2] = 4609434218613702656 := by decide +kernel
theorem even22 : evenS [4611686018427387904, 4611686018427387904] = 4607182418800017408 := by decide +kernel
theorem of_cf {r c : Nat} (h : cf r = c) (hc : nan c = false) : r = c := by
  have : nan r = false := by rw [← nan_cf, h, hc]
  rwa [cf_num this] at h
theorem nan_of_cf {r : Nat} (h : cf r = nanC) : nan r = true := by rw [← nan_cf, h, nan_nanC]

theorem mean_nil (w : World) : Calls Try.prog 24 #[.slice none 0 0] w fun e w' => RetB w nanC e w' := by
  have h := mean_any none 0 [] (by simp) w Sl.nil
  rwa [mean0] at h
set_option maxRecDepth 20000 in
set_option maxHeartbeats 400000 in
theorem lives_any (w : World) : Calls Try.prog 19 #[] w fun e w' => e = .returned (.bool true) ∧ Below w.heap.size w w' := by
  go_enter Try.func19, Try.ntmps19
  go_wp2_with fail
  refine (mean_nil w).mono ?_; rintro e w1 ⟨r, rfl, hr, _, hb1⟩
  have hnr := nan_of_cf hr
  have hfe : feq r r = false := by rw [feq_self, hnr]; rfl
  clear hr hnr
  go_wp2_with fail
  have hrow1 := row_new w1 3 (I [1, 2])
  have h1 := mean_any (some ⟨w1.heap.size, 0, none⟩) 2 [1, 2] (by decide) _ (hrow1.sl rfl)
  refine h1.mono ?_; rintro e w2 ⟨r2, rfl, hr2, _, hb2⟩
  rw [mean12] at hr2
  obtain rfl := of_cf hr2 (by decide +kernel)
  clear h1 hrow1 hr2
  have hf2 : feq 4609434218613702656 4609434218613702656 = true := by decide +kernel
  have hb12 : Below w.heap.size w w2 := hb1.trans (((Below.refl _ _).alloc (Nat.le_refl _) _).trans (hb2.mono (by simp)) |>.mono hb1.size)
  go_wp2_with fail
  have hrow2 := row_new w2 45 (F [4611686018427387904, 4611686018427387904])
  have h2 := even_any (some ⟨w2.heap.size, 0, none⟩) 2 [4611686018427387904, 4611686018427387904] (by decide) _ (hrow2.sl rfl)
  refine h2.mono ?_; rintro e w3 ⟨r3, rfl, hr3, _, hb3⟩
  rw [even22] at hr3
  obtain rfl := of_cf hr3 (by decide +kernel)
  clear h2 hrow2 hr3
  have hf3 : feq 4607182418800017408 4607182418800017408 = true := by decide +kernel
  have hb13 : Below w.heap.size w w3 := hb12.trans (((Below.refl _ _).alloc (Nat.le_refl _) _).trans (hb3.mono (by simp)) |>.mono hb12.size)
  go_wp2_with fail
  go_ret
  exact ⟨rfl, hb13⟩

theorem same_true (a b : Nat) (h : cf a = cf b) (ha : a < 18446744073709551616) (hb : b < 18446744073709551616) (w : World) :
    Calls Try.prog 21 #[.float .f64 a, .float .f64 b] w fun e w' => e = .returned (.bool true) ∧ w = w' := by
  have h1 := same_any a b ha hb w
  have : same a b = true := by simp [same, h]
  rwa [this] at h1

def U (xs : List Nat) : List Value := xs.map fun x : Nat => Value.int .u64 (x : Int)

set_option maxRecDepth 20000 in
set_option maxHeartbeats 1000000 in
theorem tells_any (A B C : Option Addr) (n m k c d e0 : Nat) (w : World)
    (hn : n ≤ 50 → m ≤ 50 → k ≤ 50 → ∃ (xs : List Int) (ys zs : List Nat), n = xs.length ∧ m = ys.length ∧ k = zs.length ∧ (∀ y ∈ ys, y < 18446744073709551616) ∧ (∀ z ∈ zs, z < 18446744073709551616) ∧
      Sl w w.heap.size 1 A xs.length (I xs) ∧ Sl w w.heap.size 1 B ys.length (U ys) ∧ Sl w w.heap.size 1 C zs.length (U zs)) :
    Calls Try.prog 4 #[.slice A n c, .slice B m d, .slice C k e0] w fun e w' => e = .returned (.bool true) ∧ Below w.heap.size w w' := by
  by_cases hbig : n ≤ 50 ∧ m ≤ 50 ∧ k ≤ 50
  · obtain ⟨h1, h2, h3⟩ := hbig
    obtain ⟨xs, ys, zs, rfl, rfl, rfl, hys, hzs, ha, hb, hc⟩ := hn h1 h2 h3
    clear hn
    have Hys := Lib.hid hys; have Hzs := Lib.hid hzs
    have d1 : decide (50 < (xs.length : Int)) = false := decide_eq_false (by omega)
    have d2 : decide (50 < (ys.length : Int)) = false := decide_eq_false (by omega)
    have d3 : decide (50 < (zs.length : Int)) = false := decide_eq_false (by omega)
    clear hys hzs
    go_enter Try.func4, Try.ntmps4
    go_wp2_with fail
    refine (lawfloats_any B d ys Hys.out (by omega) w hb).mono ?_; rintro e w1 ⟨B1, c1, rfl, hb1, hw1⟩
    go_wp2_with fail
    refine (lawfloats_any C e0 zs Hzs.out (by omega) w1 ((hc.below hw1).more hw1.size)).mono ?_; rintro e w2 ⟨C1, c2, rfl, hc1, hw2⟩
    have hw12 : Below w.heap.size w w2 := hw1.trans (hw2.mono hw1.size)
    have hb2 := (hb1.below hw2).more hw2.size
    have ha2 := ha.below hw12
    clear ha hb hc hb1
    go_wp2_with fail
    go_loopw [9, 10, 32] (fun _ _ i wr => ∃ k j : Nat, k ≤ xs.length ∧ i = .int .i64 k ∧ wr = w2.drewN j) (fun _ _ i _ => xs.length - (intOf i).toNat)
    case atStart => exact ⟨0, 0, Nat.zero_le _, rfl, rfl⟩
    case round =>
      obtain ⟨k, j, hk, rfl, rfl⟩ := hrel
      by_cases hlt : k < xs.length
      · obtain ⟨a, u, rfl, hab, hu, hc0⟩ := ha2.cell1 (k := 0) (by omega)
        obtain ⟨_, v, ha', _, hv, hc1⟩ := ha2.cell1 (k := k) hlt
        cases ha'
        unfold I at hu hv
        simp only [List.getElem?_map] at hu hv
        obtain ⟨x0, hx0, rfl⟩ := Option.map_eq_some_iff.1 hu
        obtain ⟨x, hx, rfl⟩ := Option.map_eq_some_iff.1 hv
        have i0 : (0 : Int) ≤ (k : Int) := by omega
        have i1 : (k : Int) < (xs.length : Int) := by omega
        have i2 : (0 : Int) < (xs.length : Int) := by omega
        have hc0' : w2.cell? a = some (.int .i64 x0) := by simpa [Addr.add] using hc0
        have hpos : 0 < xs.length := by omega
        clear hu hv hx0 hx ha2
        go_wp2_with fail
        obtain ⟨VA, hVA⟩ : ∃ VA : Nat → Value → Prop, VA = fun c v => ∃ r, v = .float .f64 r ∧ cf r = c ∧ r < 18446744073709551616 := ⟨_, rfl⟩
        obtain ⟨cA, hcA⟩ : ∃ cA, cA = fop .quo (cf (floatOfInt .f64 x)) (cf (floatOfInt .f64 x0)) := ⟨_, rfl⟩
        obtain ⟨cB, hcB⟩ : ∃ cB, cB = fop .quo (cf (floatOfInt .f64 x0)) (cf (floatOfInt .f64 x)) := ⟨_, rfl⟩
        have HVA := Lib.hid hVA; have HcA := Lib.hid hcA; have HcB := Lib.hid hcB; clear hVA hcA hcB
        refine wp_region_rel (fun w' => ∃ n, w' = w2.drewN n) (fun n => if n = 4 then some (VA cA) else if n = 11 then some (VA cA) else if n = 12 then some (fun v => v = .bool true) else if n = 19 then some (VA cB) else if n = 29 then some (VA cB) else if n = 30 then some (fun v => v = .bool true) else none) (by kernel_rfl) (by kernel_rfl) ⟨j + 1, rfl⟩ ?_
        repeat (refine wpRel_step (fun K hK => ?_); go_simp; refine hK _ ?_; clear hK K)
        refine wpRel_step (fun K hK => ?_); go_simp
        refine ⟨fun m => ?_, ?_⟩
        · refine (ratio_any _ _ _).mono ?_; rintro e w' ⟨rfl, rfl⟩
          exact ⟨_, rfl, by rw [HVA.out, HcA.out]; exact ⟨_, rfl, cf_fbits _ _ _ _, fbits_lt _ _ _ _⟩, _, World.drewN_drewN ..⟩
        intro v hv
        rw [HVA.out] at hv
        obtain ⟨r1, rfl, hr1, hr1'⟩ := hv
        have Hr1 := Lib.hid hr1; clear hr1
        refine hK _ ?_; clear hK K
        repeat (refine wpRel_step (fun K hK => ?_); go_simp; refine hK _ ?_; clear hK K)
        refine wpRel_step (fun K hK => ?_); go_simp
        refine ⟨fun m => ⟨by rw [HVA.out, HcA.out]; exact ⟨_, rfl, cf_fbits _ _ _ _, fbits_lt _ _ _ _⟩, _, rfl⟩, ?_⟩
        intro v hv
        rw [HVA.out] at hv
        obtain ⟨r2, rfl, hr2, hr2'⟩ := hv
        have Hr2 := Lib.hid hr2; clear hr2
        refine hK _ ?_; clear hK K
        repeat (refine wpRel_step (fun K hK => ?_); go_simp; refine hK _ ?_; clear hK K)
        refine wpRel_step (fun K hK => ?_); go_simp
        refine ⟨fun m => ?_, ?_⟩
        · refine (same_true _ _ (by rw [Hr1.out, Hr2.out]) hr1' hr2' _).mono ?_; rintro e w' ⟨rfl, rfl⟩
          exact ⟨_, rfl, rfl, _, rfl⟩
        refine hK _ ?_; clear hK K
        repeat (refine wpRel_step (fun K hK => ?_); go_simp; refine hK _ ?_; clear hK K)
        refine wpRel_step (fun K hK => ?_); go_simp
        refine ⟨fun m => ?_, ?_⟩
        · refine (ratio_any _ _ _).mono ?_; rintro e w' ⟨rfl, rfl⟩
          exact ⟨_, rfl, by rw [HVA.out, HcB.out]; exact ⟨_, rfl, cf_fbits _ _ _ _, fbits_lt _ _ _ _⟩, _, World.drewN_drewN ..⟩
        intro v hv
        rw [HVA.out] at hv
        obtain ⟨r3, rfl, hr3, hr3'⟩ := hv
        have Hr3 := Lib.hid hr3; clear hr3
        refine hK _ ?_; clear hK K
        repeat (refine wpRel_step (fun K hK => ?_); go_simp; refine hK _ ?_; clear hK K)
        refine wpRel_step (fun K hK => ?_); go_simp
        refine ⟨fun m => ⟨by rw [HVA.out, HcB.out]; exact ⟨_, rfl, cf_fbits _ _ _ _, fbits_lt _ _ _ _⟩, _, rfl⟩, ?_⟩
        intro v hv
        rw [HVA.out] at hv
        obtain ⟨r4, rfl, hr4, hr4'⟩ := hv
        have Hr4 := Lib.hid hr4; clear hr4
        refine hK _ ?_; clear hK K
        repeat (refine wpRel_step (fun K hK => ?_); go_simp; refine hK _ ?_; clear hK K)
        refine wpRel_step (fun K hK => ?_); go_simp
        refine ⟨fun m => ?_, ?_⟩
        · refine (same_true _ _ (by rw [Hr3.out, Hr4.out]) hr3' hr4' _).mono ?_; rintro e w' ⟨rfl, rfl⟩
          exact ⟨_, rfl, rfl, _, rfl⟩
        refine hK _ ?_; clear hK K
        repeat (refine wpRel_step (fun K hK => ?_); go_simp; refine hK _ ?_; clear hK K)
        refine wpRel_nil ?_
        rintro _ ⟨m, rfl⟩
        go_wp2
        go_roundw
        case rel => exact ⟨k + 1, _, by omega, by go_num, rfl⟩
        case measure => simp [intOf]; omega
      · go_wp2_with fail
        have hb3 := hb2; have hc3 := (hc1.drewN j)
        refine (refoff_any B1 C1 c1 c2 ys zs (by omega) (by omega) _ w2.heap.size ((hb2.drewN j)) (hc1.drewN j)).mono ?_
        rintro e w' ⟨r1, n1, rfl, hr1, hr1', rfl⟩
        have Hr1 := Lib.hid hr1; clear hr1
        go_wp2_with fail
        refine (mean_any A c xs (by omega) _ ((ha2.drewN _).more hw12.size)).mono ?_; rintro e w3 ⟨r2, rfl, hr2, hr2', hw3⟩
        have Hr2 := Lib.hid hr2; clear hr2
        have hw03 : Below w2.heap.size w2 w3 := (below_drewN (Below.refl _ w2) _).trans hw3
        have ha3 := (ha2.more hw12.size).below hw03
        have hb3 := hb2.below hw03
        have hc3 := hc1.below hw03
        go_wp2_with fail
        refine (refmean_any A c xs (by omega) _ _ ha3).mono ?_; rintro e w' ⟨r3, n3, rfl, hr3, hr3', rfl⟩
        have Hr3 := Lib.hid hr3; clear hr3
        go_wp2_with fail
        refine (same_true _ _ (by rw [Hr2.out, Hr3.out]) hr2' hr3' _).mono ?_; rintro e w' ⟨rfl, rfl⟩
        go_wp2_with fail
        refine (even_any B1 c1 ys (by omega) _ ((hb3.drewN n3).more hw03.size)).mono ?_; rintro e w4 ⟨r4, rfl, hr4, hr4', hw4⟩
        have Hr4 := Lib.hid hr4; clear hr4
        have hw04 : Below w2.heap.size w2 w4 := (below_drewN hw03 n3).trans (hw4.mono hw03.size)
        have hb4 := hb2.below hw04
        have hc4 := hc1.below hw04
        go_wp2_with fail
        refine (refeven_any B1 c1 ys (by omega) _ _ hb4).mono ?_; rintro e w' ⟨r5, n5, rfl, hr5, hr5', rfl⟩
        have Hr5 := Lib.hid hr5; clear hr5
        go_wp2_with fail
        refine (same_true _ _ (by rw [Hr4.out, Hr5.out]) hr4' hr5' _).mono ?_; rintro e w' ⟨rfl, rfl⟩
        go_wp2_with fail
        refine (off_any B1 C1 c1 c2 ys zs (by omega) (by omega) _ _ (hb4.drewN n5) (hc4.drewN n5)).mono ?_
        rintro e w' ⟨r6, n6, rfl, hr6, hr6', rfl⟩
        have Hr6 := Lib.hid hr6; clear hr6
        go_wp2_with fail
        refine (same_true _ _ (by rw [Hr6.out, Hr1.out]) hr6' hr1' _).mono ?_; rintro e w' ⟨rfl, rfl⟩
        go_wp2_with fail
        refine (lives_any _).mono ?_; rintro e w5 ⟨rfl, hw5⟩
        have hw05 : Below w2.heap.size w2 w5 := (below_drewN hw04 _).trans (hw5.mono hw04.size)
        go_wp2_with fail
        go_ret
        exact ⟨rfl, hw12.trans (hw05.mono hw12.size)⟩
  · have h0 : Hid (¬ (n ≤ 50 ∧ m ≤ 50 ∧ k ≤ 50)) := hbig
    clear hn
    by_cases h1 : n ≤ 50
    · by_cases h2 : m ≤ 50
      · have h3 : ¬ k ≤ 50 := fun h => hbig ⟨h1, h2, h⟩
        clear hbig h0
        go_enter Try.func4, Try.ntmps4
        go_wp2_with fail
        refine (lives_any _).mono ?_; rintro e w5 ⟨rfl, hw5⟩
        go_wp2_with fail
        go_ret
        exact ⟨rfl, hw5⟩
      · clear hbig h0
        go_enter Try.func4, Try.ntmps4
        go_wp2_with fail
        refine (lives_any _).mono ?_; rintro e w5 ⟨rfl, hw5⟩
        go_wp2_with fail
        go_ret
        exact ⟨rfl, hw5⟩
    · clear hbig h0
      go_enter Try.func4, Try.ntmps4
      go_wp2_with fail
      refine (lives_any _).mono ?_; rintro e w5 ⟨rfl, hw5⟩
      go_wp2_with fail
      go_ret
      exact ⟨rfl, hw5⟩

end Go.Proofs.Ytdoemgccmjddcaa.St
