/- slices.SortStableFunc's family at classes: symMerge, whole. -/
import Derived.Test.YtdoemgccmjddcaaSs4
import Derived.Deep.DeepCutAuto
namespace Go.Proofs.Ytdoemgccmjddcaa.So
open Go.Shelf Go.RowKit Go.Lib Go.Sort
variable {α : Type} [Inhabited α] {key : α → Int}

/-- the two numbers between which the cut is looked for -/
structure Cut (a m b M s r : Nat) : Prop where
  lo : a ≤ s
  sr : s ≤ r
  rm : r ≤ m
  rM : r ≤ M
  up : M + m ≤ s + b
  sa : s = a ∨ s + b = M + m
  re : r = m ∨ r = M

theorem cut_runs {d d1 : Array α} {a s m e b c : Nat} (has : a ≤ s) (hsm : s ≤ m) (hme : m ≤ e) (heb : e ≤ b) (hc : c = s + (e - m))
    (hA : Srt key (sg d a m)) (hB : Srt key (sg d m b)) (h1 : RotR d d1 s m e) : Srt key (sg d1 a s) ∧ Srt key (sg d1 s c) ∧ Srt key (sg d1 c e) ∧ Srt key (sg d1 e b) := by
  rw [← sg_app d has hsm] at hA
  rw [← sg_app d hme heb] at hB
  refine ⟨?_, ?_, ?_, ?_⟩
  · rw [sg_same (d := d1) (d' := d) fun j p q => h1.out hsm hme (by omega)]; exact hA.left
  · rw [hc, h1.left hsm hme]; exact hB.left
  · rw [hc, h1.right hsm hme]; exact hA.right
  · rw [sg_same (d := d1) (d' := d) fun j p q => h1.out hsm hme (by omega)]; exact hB.right

def Sym (P : Program) (enc : α → List Value) (key : α → Int) (k g : Nat) (cb : Array Value) (blk off cap sz : Nat) (w0 : World) (N : Nat) : Prop :=
  ∀ (a m b : Nat) (d : Array α) (w : World), b - a < N → a < m → m < b → b ≤ sz → d.size = sz → SWK enc k w0 blk off d w → Srt key (sg d a m) → Srt key (sg d m b) → ∀ az mz bz : Int, az = a → mz = m → bz = b →
    Calls P 171 #[.slice (some ⟨blk, off, none⟩) sz cap, .int .i64 az, .int .i64 mz, .int .i64 bz, .func (.func g) #[] cb] w fun e w' => e = .returned (.tuple #[]) ∧ ∃ d', MerR key d d' a b ∧ SWK enc k w0 blk off d' w'

set_option maxHeartbeats 40000000 in
set_option maxRecDepth 1000000 in
theorem sym_rec {P : Program} {k : Nat} (L : SL P k) (enc : α → List Value) (cf : α → α → Int) (hcf : ∀ x y, cf x y < 0 ↔ key x < key y) (g : Nat) (cb : Array Value) (blk off cap sz a m b : Nat) (d0 d : Array α) (w0 w : World)
    (eg : ∀ args w, (callFunc g args).run P w = .ok (.enter g args) w) (hcmp : CmpLays P g cb enc k cf blk off sz w0)
    (R : RowK enc k w0 blk off d0) (hs : d0.size = sz) (hd : d.size = sz) (S : SWK enc k w0 blk off d w) (ham : a + 1 < m) (hmb : m + 1 < b) (hb : b ≤ sz) (hsz : sz < 4611686018427387904) (hA : Srt key (sg d a m)) (hB : Srt key (sg d m b))
    (ih : Sym P enc key k g cb blk off cap sz w0 (b - a)) :
    Calls P 171 #[.slice (some ⟨blk, off, none⟩) sz cap, .int .i64 a, .int .i64 m, .int .i64 b, .func (.func g) #[] cb] w fun e w' => e = .returned (.tuple #[]) ∧ ∃ d', MerR key d d' a b ∧ SWK enc k w0 blk off d' w' := by
  have hrot := fun (ra rm rb : Nat) (dk : Array α) (wr : World) (hd : dk.size = sz) (S : SWK enc k w0 blk off dk wr) (h1 : ra < rm) (h2 : rm < rb) (h3 : rb ≤ sz) (bz : Int) (e : bz = rb) =>
    (show Calls P 183 #[.slice (some ⟨blk, off, none⟩) sz cap, .int .i64 ra, .int .i64 rm, .int .i64 bz, .func (.func g) #[] cb] wr fun e w' => e = .returned (.tuple #[]) ∧ ∃ d', RotR dk d' ra rm rb ∧ SWK enc k w0 blk off d' w' from by
      subst e; exact rotate_any L enc g cb blk off cap sz ra rm rb d0 dk w0 wr R hs hd S h1 h2 h3 hsz)
  obtain ⟨mixed, FS, FR, FG, _, aE, zE, t0, a0, z0, v0, ti, ai, zi, vi, tb, ab, zb, vb, ts, al, zs, vs, tf, af, zf, vf, tu, au, zu, vu⟩ := L
  have er : ∀ args w, (callFunc 183 args).run P w = .ok (.enter 183 args) w := enters_of FR (by kernel_rfl) rfl
  have em : ∀ args w, (callFunc 171 args).run P w = .ok (.enter 171 args) w := enters_of FG (by kernel_rfl) rfl
  have S0 : Aside (SWK enc k w0 blk off d w) := S
  have HC : Aside _ := hcmp
  have HA : Hid _ := hA
  have HB : Hid _ := hB
  have HCF : Aside _ := hcf
  have HROT : Aside _ := hrot
  have IH : Aside _ := ih
  clear S FS FR hcmp hA hB hcf hrot ih
  have hbp : (((m : Int) - (a : Int)) == 1) = false := by simp; omega
  have hbq : (((b : Int) - (m : Int)) == 1) = false := by simp; omega
  obtain ⟨M, hM, hM1, hM2⟩ : ∃ M : Nat, ((a : Int) + (b : Int)) / 2 = (M : Int) ∧ 2 * M ≤ a + b ∧ a + b ≤ 2 * M + 1 := ⟨(a + b) / 2, by omega, by omega, by omega⟩
  go_enter FG, Try.ntmps171
  go_upto_if 140 with (fail)
  go_cut [20, 21] (fun s20 s21 wx => ∃ s0 r0 : Nat, s20 = .int .i64 s0 ∧ s21 = .int .i64 r0 ∧ Cut a m b M s0 r0 ∧ wx = w)
  case first =>
    by_cases hlt : M < m
    · have hltz : (M : Int) < (m : Int) := by omega
      go_wp2
      go_meet
      refine ⟨M + m - b, M, ?_, rfl, ⟨by omega, by omega, by omega, by omega, by omega, by omega, by omega⟩, rfl⟩
      first | rfl | go_num | (congr 1; omega)
    · have hltz : ¬ (M : Int) < (m : Int) := by omega
      go_wp2
      go_meet
      exact ⟨a, m, rfl, rfl, ⟨by omega, by omega, by omega, by omega, by omega, by omega, by omega⟩, rfl⟩
  case rest =>
    obtain ⟨s0, r0, rfl, rfl, C, rfl⟩ := hcut
    have lo := C.lo; have sr := C.sr; have rm := C.rm; have rM := C.rM; have up := C.up
    have HSE : Hid ((s0 = a ∨ s0 + b = M + m) ∧ (r0 = m ∨ r0 = M)) := ⟨C.sa, C.re⟩
    clear C
    go_wp2
    go_loopg [20, 21] (r0 - s0) (fun kx s20 s21 wr => ∃ (i j : Nat), s20 = .int .i64 i ∧ s21 = .int .i64 j ∧ s0 ≤ i ∧ i ≤ j ∧ j ≤ r0 ∧ j - i ≤ kx ∧ Aside (SWK enc k w0 blk off d wr) ∧ Hid (∀ t, s0 ≤ t → t < i → key d[t]! ≤ key d[M + m - 1 - t]!) ∧ Hid (∀ t, j ≤ t → t < r0 → key d[M + m - 1 - t]! < key d[t]!))
    case atStart => exact ⟨s0, r0, rfl, rfl, by omega, by omega, by omega, by omega, S0, fun t h1 h2 => by omega, fun t h1 h2 => by omega⟩
    case round =>
      clear S0
      obtain ⟨i, j, rfl, rfl, hai, hij, hjb, hkx, S1, HL, HR⟩ := hrel
      by_cases hlt : i < j
      · have hltz : (i : Int) < (j : Int) := by omega
        go_wp2_with fail
        obtain ⟨h, hh, hih, hhj⟩ : ∃ h : Nat, ((i : Int) + (j : Int)) / 2 = (h : Int) ∧ i ≤ h ∧ h < j := ⟨(i + j) / 2, by omega, by omega, by omega⟩
        rw [hh]
        obtain ⟨q, hq, hq1, hq2⟩ : ∃ q : Nat, (M : Int) + (m : Int) - 1 - (h : Int) = (q : Int) ∧ m ≤ q ∧ q < b := ⟨M + m - 1 - h, by omega, by omega, by omega⟩
        have HQ : Hid (M + m - 1 - h = q) := (by omega : M + m - 1 - h = q)
        have ea24 : ((q : Int)).toNat = q := by omega
        have pa24 : (0 : Int) ≤ (q : Int) := by omega
        have ba24 : (q : Int) < (sz : Int) := by omega
        have ra24 : IntKind.i64.wrap (q : Int) = (q : Int) := by rw [IntKind.wrap_i64]; omega
        have ec24 : ((h : Int)).toNat = h := by omega
        have pc24 : (0 : Int) ≤ (h : Int) := by omega
        have bc24 : (h : Int) < (sz : Int) := by omega
        obtain ⟨x24, hx24⟩ : ∃ x, x = d[q]! := ⟨_, rfl⟩
        obtain ⟨y24, hy24⟩ : ∃ x, x = d[h]! := ⟨_, rfl⟩
        have l24a := S1.out.ld R (by omega) P q (by omega)
        have l24b := S1.out.ld R (by omega) P h (by omega)
        rw [← hx24] at l24a
        rw [← hy24] at l24b
        have hc24 := S1.out.cmp HC.out (by omega) x24 y24
        have HX : Hid (x24 = d[q]! ∧ y24 = d[h]!) := ⟨hx24, hy24⟩
        clear hx24 hy24
        by_cases hv24 : cf x24 y24 < 0
        · have hd24 : decide (cf x24 y24 < 0) = true := decide_eq_true hv24
          go_wp2_with fail
          go_quiet_grown (first | (go_at_fn g; refine Calls.grown_of (hc24 _ _)))
          have S2 : Aside (SWK enc k w0 blk off d (grow (wr.drewN nq) osq)) := S1.out.grown nq osq
          clear l24a l24b hc24 S1
          generalize grow (wr.drewN nq) osq = w2 at S2 ⊢
          clear nq osq
          go_wp2
          go_roundg (h - i)
          case measure => omega
          case rel =>
            refine ⟨i, h, rfl, rfl, hai, hih, by omega, by omega, S2, HL, fun t h1 h2 => ?_⟩
            obtain ⟨e1, e2⟩ := HX.out
            have hk := (HCF.out _ _).1 hv24
            have hqe := HQ.out
            rw [e1, e2] at hk
            exact Int.lt_of_lt_of_le (Int.lt_of_le_of_lt (srt_le HB.out (show m ≤ M + m - 1 - t by omega) (show M + m - 1 - t ≤ q by omega) hq2) hk) (srt_le HA.out (show a ≤ h by omega) h1 (by omega))
        · have hd24 : decide (cf x24 y24 < 0) = false := decide_eq_false hv24
          go_wp2_with fail
          go_quiet_grown (first | (go_at_fn g; refine Calls.grown_of (hc24 _ _)))
          have S2 : Aside (SWK enc k w0 blk off d (grow (wr.drewN nq) osq)) := S1.out.grown nq osq
          clear l24a l24b hc24 S1
          generalize grow (wr.drewN nq) osq = w2 at S2 ⊢
          clear nq osq
          go_wp2
          go_roundg (j - (h + 1))
          case measure => omega
          case rel =>
            refine ⟨h + 1, j, by go_num, rfl, by omega, by omega, hjb, by omega, S2, fun t h1 h2 => ?_, HR⟩
            obtain ⟨e1, e2⟩ := HX.out
            have hk : ¬ key x24 < key y24 := fun hk => by have := (HCF.out x24 y24).2 hk; omega
            rw [e1, e2] at hk
            have hqe := HQ.out
            have hk' : key d[h]! ≤ key d[q]! := by omega
            exact Int.le_trans (Int.le_trans (srt_le HA.out (show a ≤ t by omega) (show t ≤ h by omega) (by omega)) hk') (srt_le HB.out hq1 (show q ≤ M + m - 1 - t by omega) (by omega))
      · have hltz : ¬ (i : Int) < (j : Int) := by omega
        obtain rfl : i = j := by omega
        obtain ⟨e, he, hme, heb⟩ : ∃ e : Nat, (M : Int) + (m : Int) - (i : Int) = (e : Int) ∧ m ≤ e ∧ e ≤ b := ⟨M + m - i, by omega, by omega, by omega⟩
        have him : i ≤ m := by omega
        have HE : Hid (M + m - i = e ∧ M = i + (e - m)) := ⟨by omega, by omega⟩
        have H12 : Hid (a < i → e < b → key d[i - 1]! ≤ key d[e]!) := fun h1 h2 => by
          have := HL.out (i - 1) (by have := HSE.out; omega) (by omega)
          rwa [show M + m - 1 - (i - 1) = e by omega] at this
        have H21 : Hid (m < e → i < m → key d[e - 1]! < key d[i]!) := fun h1 h2 => by
          have := HR.out i (Nat.le_refl _) (by have := HSE.out; omega)
          rwa [show M + m - 1 - i = e - 1 by omega] at this
        clear HL HR HSE
        have SX : Aside (SWK enc k w0 blk off d wr) := S1
        go_upto_region 39 with (fail)
        -- the rotation
        rcases (by omega : ¬ i < m ∨ (i < m ∧ ¬ m < e) ∨ (i < m ∧ m < e)) with hc | ⟨hc, hc2⟩ | ⟨hc, hc2⟩
        all_goals first
          | (have z1 : ¬ (i : Int) < (m : Int) := (by omega)
             have z2 : decide ((i : Int) < (m : Int)) = false := decide_eq_false z1
             obtain ⟨d1, H1, S2⟩ : ∃ d1, Hid (RotR d d1 i m e) ∧ Aside (SWK enc k w0 blk off d1 wr) := ⟨d, RotR.nothing d i m e (.inl (by omega)), S1⟩
             clear S1
             go_upto_region 41 with (fail))
          | (have z1 : (i : Int) < (m : Int) := (by omega)
             have z3 : ¬ (m : Int) < (e : Int) := (by omega)
             obtain ⟨d1, H1, S2⟩ : ∃ d1, Hid (RotR d d1 i m e) ∧ Aside (SWK enc k w0 blk off d1 wr) := ⟨d, RotR.nothing d i m e (.inr (by omega)), S1⟩
             clear S1
             go_upto_region 41 with (fail))
          | (have z1 : (i : Int) < (m : Int) := (by omega)
             have z3 : (m : Int) < (e : Int) := (by omega)
             have hcall := HROT.out i m e d wr hd S1.out hc hc2 (by omega) (e : Int) rfl
             clear S1
             go_upto_region 41 with (go_at_fn 183; refine hcall.mono ?_; rintro e1 w1 ⟨rfl, d1, h1, s2⟩)
             have H1 : Hid (RotR d d1 i m e) := h1
             have S2 : Aside (SWK enc k w0 blk off d1 w1) := s2
             clear h1 s2 hcall)
        all_goals
          have HD1 : Hid (d1.size = sz ∧ Srt key (sg d1 a i) ∧ Srt key (sg d1 i M) ∧ Srt key (sg d1 M e) ∧ Srt key (sg d1 e b)) := ⟨H1.out.1.trans hd, cut_runs (by omega) him hme heb HE.out.2 HA.out HB.out H1.out⟩
          rcases (by omega : ¬ a < i ∨ (a < i ∧ ¬ i < M) ∨ (a < i ∧ i < M)) with hc3 | ⟨hc3, hc4⟩ | ⟨hc3, hc4⟩
        all_goals first
          | (have y1 : ¬ (a : Int) < (i : Int) := (by omega)
             have y2 : decide ((a : Int) < (i : Int)) = false := decide_eq_false y1
             obtain ⟨d2, H2, S3⟩ : ∃ d2, Hid (MerR key d1 d2 a M) ∧ Aside (SWK enc k w0 blk off d2 _) := ⟨d1, mer_nothing HD1.out.2.1 HD1.out.2.2.1 (.inl (by omega)), S2⟩
             clear S2
             go_upto_region 43 with (fail))
          | (have y1 : (a : Int) < (i : Int) := (by omega)
             have y3 : ¬ (i : Int) < (M : Int) := (by omega)
             obtain ⟨d2, H2, S3⟩ : ∃ d2, Hid (MerR key d1 d2 a M) ∧ Aside (SWK enc k w0 blk off d2 _) := ⟨d1, mer_nothing HD1.out.2.1 HD1.out.2.2.1 (.inr (by omega)), S2⟩
             clear S2
             go_upto_region 43 with (fail))
          | (have y1 : (a : Int) < (i : Int) := (by omega)
             have y3 : (i : Int) < (M : Int) := (by omega)
             have hcall2 := IH.out a i M d1 _ (by omega) hc3 hc4 (by omega) HD1.out.1 S2.out HD1.out.2.1 HD1.out.2.2.1 a i M rfl rfl rfl
             clear S2
             go_upto_region 43 with (go_at_fn 171; refine hcall2.mono ?_; rintro e2 w2 ⟨rfl, d2, h2, s3⟩)
             have H2 : Hid (MerR key d1 d2 a M) := h2
             have S3 : Aside (SWK enc k w0 blk off d2 w2) := s3
             clear h2 s3 hcall2)
        all_goals
          have HD2 : Hid (d2.size = sz ∧ Srt key (sg d2 M e) ∧ Srt key (sg d2 e b)) := ⟨H2.out.size.trans HD1.out.1,
            (by rw [sg_same (d := d2) (d' := d1) fun j p q => H2.out.out j (by omega)]; exact HD1.out.2.2.2.1), (by rw [sg_same (d := d2) (d' := d1) fun j p q => H2.out.out j (by have := HE.out; omega)]; exact HD1.out.2.2.2.2)⟩
          rcases (by omega : ¬ M < e ∨ (M < e ∧ ¬ e < b) ∨ (M < e ∧ e < b)) with hc5 | ⟨hc5, hc6⟩ | ⟨hc5, hc6⟩
        all_goals first
          | (have x1 : ¬ (M : Int) < (e : Int) := (by omega)
             have x2 : decide ((M : Int) < (e : Int)) = false := decide_eq_false x1
             obtain ⟨d3, H3, S4⟩ : ∃ d3, Hid (MerR key d2 d3 M b) ∧ Aside (SWK enc k w0 blk off d3 _) := ⟨d2, mer_nothing HD2.out.2.1 HD2.out.2.2 (.inl (by have := HE.out; omega)), S3⟩
             clear S3
             go_wp2)
          | (have x1 : (M : Int) < (e : Int) := (by omega)
             have x3 : ¬ (e : Int) < (b : Int) := (by omega)
             obtain ⟨d3, H3, S4⟩ : ∃ d3, Hid (MerR key d2 d3 M b) ∧ Aside (SWK enc k w0 blk off d3 _) := ⟨d2, mer_nothing HD2.out.2.1 HD2.out.2.2 (.inr (by omega)), S3⟩
             clear S3
             go_wp2)
          | (have x1 : (M : Int) < (e : Int) := (by omega)
             have x3 : (e : Int) < (b : Int) := (by omega)
             have hcall3 := IH.out M e b d2 _ (by omega) hc5 hc6 (by omega) HD2.out.1 S3.out HD2.out.2.1 HD2.out.2.2 M e b rfl rfl rfl
             clear S3
             go_wp2_with (go_at_fn 171; refine hcall3.mono ?_; rintro e2 w3 ⟨rfl, d3, h3, s4⟩)
             have H3 : Hid (MerR key d2 d3 M b) := h3
             have S4 : Aside (SWK enc k w0 blk off d3 w3) := s4
             clear h3 s4 hcall3)
        all_goals
          go_end0
          exact ⟨rfl, d3, mer_cut (by omega) him hme heb HE.out.2 HA.out HB.out H12.out H21.out H1.out H2.out H3.out, S4.out⟩
end Go.Proofs.Ytdoemgccmjddcaa.So
